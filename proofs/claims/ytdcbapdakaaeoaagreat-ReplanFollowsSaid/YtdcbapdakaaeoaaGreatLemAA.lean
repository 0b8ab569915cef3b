/- Numbers, nights, bounds, heights: defined. -/
import Derived.Test.YtdcbapdakaaeoaaGreatEA0
import Derived.Test.YtdcbapdakaaeoaaGreatEA1
import Derived.Test.YtdcbapdakaaeoaaGreatEA2
import Derived.Test.YtdcbapdakaaeoaaGreatEA3
import Derived.Test.YtdcbapdakaaeoaaGreatEA4
import Derived.Test.YtdcbapdakaaeoaaGreatEA5
import Derived.Test.YtdcbapdakaaeoaaGreatEA6
import Derived.Test.YtdcbapdakaaeoaaGreatEA7
import Derived.Test.YtdcbapdakaaeoaaGreatPl
namespace Go.Proofs.YtdcbapdakaaeoaaGreat.Pure
set_option linter.unusedVariables false
set_option linter.unusedSimpArgs false
open Go Go.RowKit Go.Proofs.YtdcbapdakaaeoaaGreat.Pv Go.Proofs.YtdcbapdakaaeoaaGreat.Pl Go.Proofs.YtdcbapdakaaeoaaGreat.EA

/-! Whole numbers: what is defined, for every argument. -/
def Def {α : Type} (o : Option α) : Prop := ∃ r, o = some r
theorem Def.mk {α : Type} (a : α) : Def (some a) := ⟨a, rfl⟩
theorem Def.bind {α β : Type} {x : Option α} {f : α → Option β} (h : Def x) (k : ∀ r, x = some r → Def (f r)) : Def (x.bind f) := by
  obtain ⟨r, h⟩ := h
  rw [h]
  exact k r h
theorem Def.ite {α : Type} {c : Prop} [Decidable c] {a b : Option α} (h1 : c → Def a) (h2 : ¬ c → Def b) : Def (if c then a else b) := by
  by_cases h : c
  · rw [if_pos h]; exact h1 h
  · rw [if_neg h]; exact h2 h
theorem Def.no {α : Type} {c : Prop} [Decidable c] {b : Option α} (h1 : ¬ c) (h2 : Def b) : Def (if c then none else b) := by rw [if_neg h1]; exact h2
theorem Def.yes {α : Type} {c : Prop} [Decidable c] {a : Option α} (h1 : c) (h2 : Def a) : Def (if c then a else none) := by rw [if_pos h1]; exact h2
theorem wu (x : Int) : IntKind.u64.wrap x = x % 18446744073709551616 := by
  simp [IntKind.wrap, IntKind.bits, IntKind.signed]
theorem wu_in {x : Int} (h0 : 0 ≤ x) (h1 : x < 18446744073709551616) : IntKind.u64.wrap x = x := IntWalk.u64_in x ⟨h0, by omega⟩
theorem wu_pos (x : Int) : 0 ≤ IntKind.u64.wrap x ∧ IntKind.u64.wrap x < 18446744073709551616 := by rw [wu]; omega
theorem wi_pos (x : Int) : -9223372036854775808 ≤ IntKind.i64.wrap x ∧ IntKind.i64.wrap x ≤ 9223372036854775807 := by rw [IntKind.wrap_i64]; omega
theorem and32 (x : Int) : bitop .and .u64 x 4294967295 = x % 4294967296 := by
  show ((BitVec.ofInt 64 x &&& BitVec.ofInt 64 4294967295).toNat : Int) = _
  rw [BitVec.toNat_and, BitVec.toNat_ofInt, BitVec.toNat_ofInt]
  have e : ((4294967295 : Int) % ((2 ^ 64 : Nat) : Int)).toNat = 2 ^ 32 - 1 := by decide
  rw [e, Nat.and_two_pow_sub_one_eq_mod]
  omega
theorem or_lt {x y : Int} : 0 ≤ bitop .or .u64 x y ∧ bitop .or .u64 x y < 18446744073709551616 := by
  unfold bitop
  have := (BitVec.ofInt IntKind.u64.bits x ||| BitVec.ofInt IntKind.u64.bits y).isLt
  simp only [IntKind.bits] at this ⊢
  omega
theorem size_def (a : Int) : Def (num_size a) := by
  rw [num_size_eq]
  exact Def.ite (fun _ => .mk _) (fun _ => .mk _)
theorem size_pos {a r : Int} (h : num_size a = some r) : 0 ≤ r ∧ r < 18446744073709551616 := by
  rw [num_size_eq] at h
  split at h <;> cases h <;> exact wu_pos _
theorem size_in {a : Int} (h0 : 0 ≤ a) (h1 : a < 18446744073709551616) : num_size a = some a := by
  rw [num_size_eq, if_neg (by rw [dt]; omega), wu_in h0 h1]
theorem gcd_p2 : ∀ (n : Nat) (x y : Int), 0 ≤ x → 0 ≤ y → y ≤ n → Def (num_Gcd.p2 x y) := by
  intro n
  induction n with
  | zero =>
    intro x y _ hy hn
    rw [num_Gcd.p2_eq, if_neg (by rw [dt]; omega)]
    exact .mk _
  | succ n ih =>
    intro x y hx hy hn
    rw [num_Gcd.p2_eq]
    refine Def.ite (fun h => ?_) (fun _ => .mk _)
    rw [dt] at h
    rw [if_neg (by omega)]
    have h1 := Int.tmod_lt_of_pos x (show 0 < y by omega)
    have h2 := Int.tmod_nonneg y hx
    exact ih _ _ hy h2 (by omega)
theorem gcd_def (a b : Int) : Def (num_Gcd a b) := by
  rw [num_Gcd_eq]
  refine (size_def a).bind fun r hr => (size_def b).bind fun r1 hr1 => ?_
  have h1 := size_pos hr
  have h2 := size_pos hr1
  exact gcd_p2 18446744073709551616 r r1 h1.1 h2.1 (by omega)
theorem fracCheck_def (x : Int × Int) : Def (frac_Check x) := by
  rw [frac_Check_eq]
  repeat' (refine Def.ite (fun _ => ?_) (fun _ => ?_))
  all_goals first | exact .mk _ | exact (gcd_def _ _).bind fun r _ => Def.ite (fun _ => .mk _) (fun _ => .mk _)
theorem fracCheck_ok {x : Int × Int} (h : frac_Check x = some 0) : -1152921504606846976 ≤ x.1 ∧ x.1 ≤ 1152921504606846976 ∧ 1 ≤ x.2 ∧ x.2 ≤ 1152921504606846976 := by
  rw [frac_Check_eq] at h
  simp only [dt, df] at h
  split at h
  · split at h
    · split at h
      · split at h
        · cases h
        · omega
      · cases h
    · cases h
  · cases h
theorem ceilDiv_def (a b : Int) : Def (num_CeilDiv a b) := by
  rw [num_CeilDiv_eq]
  refine Def.ite (fun _ => .mk _) (fun h => ?_)
  rw [dt] at h
  exact .no (by omega) (.no (by omega) (Def.ite (fun _ => .mk _) (fun _ => .mk _)))
theorem fracCeil_def (x : Int × Int) : Def (frac_Ceil x) := by
  rw [frac_Ceil_eq, frac_rounded_eq]
  refine Def.bind ?_ fun _ _ => .mk _
  exact (fracCheck_def x).bind fun r _ => Def.ite (fun _ => .mk _) (fun _ => (ceilDiv_def _ _).bind fun _ _ => .mk _)
theorem rate_def (r : Int × Int × Int × Int) : Def (scale_CheckRate r) := by
  rw [scale_CheckRate_eq]
  refine (fracCheck_def _).bind fun e _ => ?_
  repeat' (refine Def.ite (fun _ => ?_) (fun _ => ?_))
  all_goals first | exact .mk _ | exact (fracCeil_def _).bind fun r _ => Def.ite (fun _ => .mk _) (fun _ => .mk _)
theorem rate_ok {r : Int × Int × Int × Int} (h : scale_CheckRate r = some 0) : frac_Check r.2.2 = some 0 ∧ 1 ≤ r.2.2.1 ∧ -17592186044416 ≤ r.1 ∧ r.1 ≤ 17592186044416 ∧ 0 ≤ r.2.1 ∧ r.2.1 < 4294967296 := by
  rw [scale_CheckRate_eq] at h
  obtain ⟨e, he⟩ := fracCheck_def r.2.2
  rw [he, bind_some_] at h
  simp only [dt, df, ne_t] at h
  split at h
  case isFalse => cases h
  split at h
  case isFalse => cases h
  split at h
  case isFalse => cases h
  split at h
  · cases h
  split at h
  · rename_i q
    cases h
    exact absurd rfl q
  rename_i q
  have : e = 0 := Classical.byContradiction q
  subst this
  split at h
  case isFalse => cases h
  exact ⟨he, by omega, by omega, by omega, by omega, by omega⟩
/-- The whole product. -/
theorem mul64 {x y : Int} (hx0 : 0 ≤ x) (hx : x < 18446744073709551616) (hy0 : 0 ≤ y) (hy : y < 18446744073709551616) : bits_Mul64 x y = some (x * y / 18446744073709551616, x * y % 18446744073709551616) := by
  rw [bits_Mul64_eq]
  simp only [and32, Int.fdiv_eq_ediv_of_nonneg _ (show (0 : Int) ≤ 4294967296 by omega)]
  have ea : x = 4294967296 * (x / 4294967296) + x % 4294967296 := (Int.mul_ediv_add_emod x 4294967296).symm
  have eb : y = 4294967296 * (y / 4294967296) + y % 4294967296 := (Int.mul_ediv_add_emod y 4294967296).symm
  have a0 : 0 ≤ x / 4294967296 := by omega
  have a1 : x / 4294967296 ≤ 4294967295 := by omega
  have b0 : 0 ≤ y / 4294967296 := by omega
  have b1 : y / 4294967296 ≤ 4294967295 := by omega
  have c0 : 0 ≤ x % 4294967296 := by omega
  have c1 : x % 4294967296 ≤ 4294967295 := by omega
  have d0 : 0 ≤ y % 4294967296 := by omega
  have d1 : y % 4294967296 ≤ 4294967295 := by omega
  generalize x / 4294967296 = X at *
  generalize y / 4294967296 = Y at *
  generalize x % 4294967296 = U at *
  generalize y % 4294967296 = V at *
  have up : ∀ {p q : Int}, 0 ≤ p → p ≤ 4294967295 → 0 ≤ q → q ≤ 4294967295 → 0 ≤ p * q ∧ p * q ≤ 18446744065119617025 := fun {p q} h1 h2 h3 h4 => ⟨Int.mul_nonneg h1 h3, by have := Int.mul_le_mul h2 h4 h3 (by omega : (0 : Int) ≤ 4294967295); omega⟩
  have p1 := up a0 a1 b0 b1
  have p2 := up a0 a1 d0 d1
  have p3 := up c0 c1 d0 d1
  have p4 := up c0 c1 b0 b1
  have exy : x * y = 18446744073709551616 * (X * Y) + 4294967296 * (X * V) + 4294967296 * (U * Y) + U * V := by
    rw [ea, eb]
    simp only [Int.add_mul, Int.mul_add, Int.mul_assoc, Int.mul_left_comm X 4294967296 Y, Int.mul_left_comm U 4294967296 Y, Int.mul_left_comm X 4294967296 V]
    omega
  rw [wu_in c0 (by omega), wu_in d0 (by omega)]
  rw [exy]
  generalize X * Y = P1 at *
  generalize X * V = P2 at *
  generalize U * V = P3 at *
  generalize U * Y = P4 at *
  simp only [wu]
  congr 1
  refine Prod.ext ?_ ?_ <;> simp only <;> omega
theorem neg_def (w : Int × Int) : Def (num_Wide_Neg w) := by
  rw [num_Wide_Neg_eq]
  refine .yes ?_ (.mk _)
  have := wu_pos (bitop .xor .u64 18446744073709551615 w.2)
  omega
theorem mul64_def (x y : Int) : Def (bits_Mul64 x y) := by
  rw [bits_Mul64_eq]
  exact .mk _
theorem product_def (a b : Int) : Def (num_Product a b) := by
  rw [num_Product_eq]
  exact (size_def _).bind fun _ _ => (size_def _).bind fun _ _ => (mul64_def _ _).bind fun _ _ => Def.ite (fun _ => (neg_def _).bind fun _ _ => .mk _) (fun _ => .mk _)
theorem product_in {a b : Int} (ha : 0 ≤ a) (ha1 : a < 9223372036854775808) (hb : 0 ≤ b) (hb1 : b < 9223372036854775808) : num_Product a b = some (a * b / 18446744073709551616, a * b % 18446744073709551616) := by
  rw [num_Product_eq, size_in ha (by omega), size_in hb (by omega), bind_some_, bind_some_, mul64 ha (by omega) hb (by omega), bind_some_, if_neg]
  · have h0 : 0 ≤ a * b := Int.mul_nonneg ha hb
    have h1 : a * b < 85070591730234615865843651857942052864 := by
      have := Int.mul_le_mul (show a ≤ 9223372036854775807 by omega) (show b ≤ 9223372036854775807 by omega) hb (by omega : (0 : Int) ≤ 9223372036854775807)
      omega
    simp only
    rw [wi (by omega) (by omega)]
  · have e1 : decide (a < 0) = false := by simp; omega
    have e2 : decide (b < 0) = false := by simp; omega
    rw [e1, e2]
    decide
theorem len_tab : ∀ k : Nat, k < 256 → k ≠ 0 → ∃ n : Nat, ((bytesOf (ByteArray.mk #[0, 1, 2, 2, 3, 3, 3, 3, 4, 4, 4, 4, 4, 4, 4, 4, 5, 5, 5, 5, 5, 5, 5, 5, 5, 5, 5, 5, 5, 5, 5, 5, 6, 6, 6, 6, 6, 6, 6, 6, 6, 6, 6, 6, 6, 6, 6, 6, 6, 6, 6, 6, 6, 6, 6, 6, 6, 6, 6, 6, 6, 6, 6, 6, 7, 7, 7, 7, 7, 7, 7, 7, 7, 7, 7, 7, 7, 7, 7, 7, 7, 7, 7, 7, 7, 7, 7, 7, 7, 7, 7, 7, 7, 7, 7, 7, 7, 7, 7, 7, 7, 7, 7, 7, 7, 7, 7, 7, 7, 7, 7, 7, 7, 7, 7, 7, 7, 7, 7, 7, 7, 7, 7, 7, 7, 7, 7, 7, 8, 8, 8, 8, 8, 8, 8, 8, 8, 8, 8, 8, 8, 8, 8, 8, 8, 8, 8, 8, 8, 8, 8, 8, 8, 8, 8, 8, 8, 8, 8, 8, 8, 8, 8, 8, 8, 8, 8, 8, 8, 8, 8, 8, 8, 8, 8, 8, 8, 8, 8, 8, 8, 8, 8, 8, 8, 8, 8, 8, 8, 8, 8, 8, 8, 8, 8, 8, 8, 8, 8, 8, 8, 8, 8, 8, 8, 8, 8, 8, 8, 8, 8, 8, 8, 8, 8, 8, 8, 8, 8, 8, 8, 8, 8, 8, 8, 8, 8, 8, 8, 8, 8, 8, 8, 8, 8, 8, 8, 8, 8, 8, 8, 8, 8, 8, 8, 8, 8, 8, 8, 8, 8, 8, 8, 8, 8, 8])).getD k 0) = ((n + 1 : Nat) : Int) ∧ n < 8 ∧ 2 ^ n ≤ k ∧ k < 2 ^ (n + 1) := by
  have h : ∀ k : Fin 256, k.val = 0 ∨ (let t := ((bytesOf (ByteArray.mk #[0, 1, 2, 2, 3, 3, 3, 3, 4, 4, 4, 4, 4, 4, 4, 4, 5, 5, 5, 5, 5, 5, 5, 5, 5, 5, 5, 5, 5, 5, 5, 5, 6, 6, 6, 6, 6, 6, 6, 6, 6, 6, 6, 6, 6, 6, 6, 6, 6, 6, 6, 6, 6, 6, 6, 6, 6, 6, 6, 6, 6, 6, 6, 6, 7, 7, 7, 7, 7, 7, 7, 7, 7, 7, 7, 7, 7, 7, 7, 7, 7, 7, 7, 7, 7, 7, 7, 7, 7, 7, 7, 7, 7, 7, 7, 7, 7, 7, 7, 7, 7, 7, 7, 7, 7, 7, 7, 7, 7, 7, 7, 7, 7, 7, 7, 7, 7, 7, 7, 7, 7, 7, 7, 7, 7, 7, 7, 7, 8, 8, 8, 8, 8, 8, 8, 8, 8, 8, 8, 8, 8, 8, 8, 8, 8, 8, 8, 8, 8, 8, 8, 8, 8, 8, 8, 8, 8, 8, 8, 8, 8, 8, 8, 8, 8, 8, 8, 8, 8, 8, 8, 8, 8, 8, 8, 8, 8, 8, 8, 8, 8, 8, 8, 8, 8, 8, 8, 8, 8, 8, 8, 8, 8, 8, 8, 8, 8, 8, 8, 8, 8, 8, 8, 8, 8, 8, 8, 8, 8, 8, 8, 8, 8, 8, 8, 8, 8, 8, 8, 8, 8, 8, 8, 8, 8, 8, 8, 8, 8, 8, 8, 8, 8, 8, 8, 8, 8, 8, 8, 8, 8, 8, 8, 8, 8, 8, 8, 8, 8, 8, 8, 8, 8, 8, 8, 8])).getD k.val 0); t = ((t.toNat - 1 + 1 : Nat) : Int) ∧ t.toNat - 1 < 8 ∧ 2 ^ (t.toNat - 1) ≤ k.val ∧ k.val < 2 ^ (t.toNat - 1 + 1)) := by decide +kernel
  intro k hk h0
  rcases h ⟨k, hk⟩ with q | q
  · exact absurd q h0
  · exact ⟨_, q⟩
/-! Long division is defined. -/
theorem two_pow_le {k n : Nat} {x : Int} (h0 : (2 : Int) ^ n ≤ x) (hk : k ≤ n) : (2 : Int) ^ k ≤ x := by
  have : (2 : Nat) ^ k ≤ 2 ^ n := Nat.pow_le_pow_right (by omega) hk
  have h : (2 : Int) ^ k ≤ 2 ^ n := by exact_mod_cast this
  omega
theorem len10 {x : Int} {n2 : Int} (h0 : 1 ≤ x) (h1 : x < 256) (hn0 : 0 ≤ n2) (hn1 : n2 ≤ 56) : ∃ m : Nat, bits_Len64.p10 x n2 = some (n2 + (m + 1 : Nat)) ∧ m < 8 ∧ 2 ^ m ≤ x.toNat ∧ x.toNat < 2 ^ (m + 1) := by
  obtain ⟨m, e, h2, h3, h4⟩ := len_tab x.toNat (by omega) (by omega)
  rw [bits_Len64.p10_eq]
  rw [IntWalk.u8_in x ⟨by omega, by omega⟩, if_pos (by omega), if_pos (Int.lt_of_lt_of_le h1 (by decide +kernel)), e]
  refine ⟨m, ?_, h2, h3, h4⟩
  rw [wi (x := ((m + 1 : Nat) : Int)) (by omega) (by omega), wi (by omega) (by omega)]
theorem len_half {x : Int} {k m : Nat} (h0 : 0 ≤ x) (h1 : 2 ^ m ≤ (x / (2 : Int) ^ k).toNat) (h2 : (x / (2 : Int) ^ k).toNat < 2 ^ (m + 1)) : 2 ^ (m + k) ≤ x.toNat ∧ x.toNat < 2 ^ (m + k + 1) := by
  obtain ⟨X, rfl⟩ := Int.eq_ofNat_of_zero_le h0
  have e : ((X : Int) / (2 : Int) ^ k).toNat = X / 2 ^ k := by
    have : ((2 : Int) ^ k) = ((2 ^ k : Nat) : Int) := by simp
    rw [this, ← Int.natCast_ediv, Int.toNat_natCast]
  rw [e] at h1 h2
  rw [Int.toNat_natCast, show m + k + 1 = m + 1 + k by omega, Nat.pow_add, Nat.pow_add]
  have hp : 0 < 2 ^ k := Nat.two_pow_pos k
  exact ⟨(Nat.le_div_iff_mul_le hp).1 h1, (Nat.div_lt_iff_lt_mul hp).1 h2⟩
/-- The number of bits. -/
theorem len64 {y : Int} (h0 : 1 ≤ y) (h1 : y < 18446744073709551616) : ∃ m : Nat, bits_Len64 y = some ((m + 1 : Nat) : Int) ∧ m < 64 ∧ 2 ^ m ≤ y.toNat ∧ y.toNat < 2 ^ (m + 1) := by
  have f : ∀ (a : Int) (b : Int), 0 ≤ b → Int.fdiv a b = a / b := fun a b h => Int.fdiv_eq_ediv_of_nonneg a h
  have s7 : ∀ (x n : Int), 1 ≤ x → x < 65536 → 0 ≤ n → n ≤ 48 → ∃ m : Nat, bits_Len64.p7 x n = some (n + (m + 1 : Nat)) ∧ m < 16 ∧ 2 ^ m ≤ x.toNat ∧ x.toNat < 2 ^ (m + 1) := by
    intro x n h0 h1 hn0 hn1
    rw [bits_Len64.p7_eq, f _ _ (by omega)]
    by_cases h : x ≥ 256
    · rw [if_pos (by rw [dt]; exact h), wi (by omega) (by omega)]
      obtain ⟨m, e, q1, q2, q3⟩ := len10 (x := x / 256) (n2 := n + 8) (by omega) (by omega) (by omega) (by omega)
      have := len_half (x := x) (k := 8) (m := m) (by omega) q2 q3
      exact ⟨m + 8, by rw [e]; congr 1; omega, by omega, this.1, this.2⟩
    · rw [if_neg (by rw [dt]; exact h)]
      obtain ⟨m, e, q1, q2, q3⟩ := len10 (x := x) (n2 := n) (by omega) (by omega) (by omega) (by omega)
      exact ⟨m, e, by omega, q2, q3⟩
  have s4 : ∀ (x n : Int), 1 ≤ x → x < 4294967296 → 0 ≤ n → n ≤ 32 → ∃ m : Nat, bits_Len64.p4 x n = some (n + (m + 1 : Nat)) ∧ m < 32 ∧ 2 ^ m ≤ x.toNat ∧ x.toNat < 2 ^ (m + 1) := by
    intro x n h0 h1 hn0 hn1
    rw [bits_Len64.p4_eq, f _ _ (by omega)]
    by_cases h : x ≥ 65536
    · rw [if_pos (by rw [dt]; exact h), wi (by omega) (by omega)]
      obtain ⟨m, e, q1, q2, q3⟩ := s7 (x / 65536) (n + 16) (by omega) (by omega) (by omega) (by omega)
      have := len_half (x := x) (k := 16) (m := m) (by omega) q2 q3
      exact ⟨m + 16, by rw [e]; congr 1; omega, by omega, this.1, this.2⟩
    · rw [if_neg (by rw [dt]; exact h)]
      obtain ⟨m, e, q1, q2, q3⟩ := s7 x n (by omega) (by omega) (by omega) (by omega)
      exact ⟨m, e, by omega, q2, q3⟩
  rw [bits_Len64_eq, f _ _ (by omega)]
  by_cases h : y ≥ 4294967296
  · rw [if_pos (by rw [dt]; exact h)]
    obtain ⟨m, e, q1, q2, q3⟩ := s4 (y / 4294967296) 32 (by omega) (by omega) (by omega) (by omega)
    have := len_half (x := y) (k := 32) (m := m) (by omega) q2 q3
    exact ⟨m + 32, by rw [e]; congr 1; omega, by omega, this.1, this.2⟩
  · rw [if_neg (by rw [dt]; exact h)]
    obtain ⟨m, e, q1, q2, q3⟩ := s4 y 0 (by omega) (by omega) (by omega) (by omega)
    exact ⟨m, by rw [e]; congr 1; omega, by omega, q2, q3⟩
section
variable {y2 s8 yn1 yn0 un0 un1 un32 q r un21 q0 : Int}
theorem p25_hi (hs : 0 ≤ s8) (h : 2147483648 ≤ yn1) (h' : yn1 < 4294967296) (hr0 : 2147483648 ≤ r) (hr1 : r < 4294967296) : Def (bits_Div64.p25 y2 s8 yn1 yn0 un0 q r un21 q0) := by
  rw [bits_Div64.p25_eq, wu_in (by omega) (by omega), if_pos (by rw [dt]; omega)]
  exact .no (by omega) (.mk _)
theorem p24_of (hs : 0 ≤ s8) (h : Def (bits_Div64.p25 y2 s8 yn1 yn0 un0 q r un21 q0)) : Def (bits_Div64.p24 y2 s8 yn1 yn0 un0 q r un21 q0) := by
  rw [bits_Div64.p24_eq]
  refine Def.ite (fun _ => Def.ite (fun _ => h) (fun _ => ?_)) (fun _ => h)
  exact .no (by omega) (.mk _)
theorem p25_mid (hs : 0 ≤ s8) (h : 2147483648 ≤ yn1) (h' : yn1 < 4294967296) (hr0 : 0 ≤ r) (hr1 : r < 4294967296) : Def (bits_Div64.p25 y2 s8 yn1 yn0 un0 q r un21 q0) := by
  rw [bits_Div64.p25_eq]
  refine Def.ite (fun _ => .no (by omega) (.mk _)) (fun hn => ?_)
  rw [dt, wu_in (by omega) (by omega)] at hn
  rw [wu_in (by omega) (by omega)]
  exact p24_of hs (p25_hi hs h h' (by omega) (by omega))
theorem p25_def (hs : 0 ≤ s8) (h : 2147483648 ≤ yn1) (h' : yn1 < 4294967296) : Def (bits_Div64.p25 y2 s8 yn1 yn0 un0 q r un21 q0) := by
  rw [bits_Div64.p25_eq]
  refine Def.ite (fun _ => .no (by omega) (.mk _)) (fun hn => ?_)
  rw [dt] at hn
  have := wu_pos (r + yn1)
  exact p24_of hs (p25_mid hs h h' (by omega) (by omega))
theorem p24_def (hs : 0 ≤ s8) (h : 2147483648 ≤ yn1) (h' : yn1 < 4294967296) : Def (bits_Div64.p24 y2 s8 yn1 yn0 un0 q r un21 q0) := p24_of hs (p25_def hs h h')
theorem p18_hi (hs : 0 ≤ s8) (h : 2147483648 ≤ yn1) (h' : yn1 < 4294967296) (hr0 : 2147483648 ≤ r) (hr1 : r < 4294967296) : Def (bits_Div64.p18 y2 s8 yn1 yn0 un32 un1 un0 q r) := by
  rw [bits_Div64.p18_eq, wu_in (x := r + yn1) (by omega) (by omega), if_pos (by rw [dt]; omega)]
  exact .no (by omega) (p24_def hs h h')
theorem p17_of (hs : 0 ≤ s8) (h : 2147483648 ≤ yn1) (h' : yn1 < 4294967296) (k : Def (bits_Div64.p18 y2 s8 yn1 yn0 un32 un1 un0 q r)) : Def (bits_Div64.p17 y2 s8 yn1 yn0 un32 un1 un0 q r) := by
  rw [bits_Div64.p17_eq]
  refine Def.ite (fun _ => Def.ite (fun _ => k) (fun _ => ?_)) (fun _ => k)
  exact .no (by omega) (p24_def hs h h')
theorem p18_mid (hs : 0 ≤ s8) (h : 2147483648 ≤ yn1) (h' : yn1 < 4294967296) (hr0 : 0 ≤ r) (hr1 : r < 4294967296) : Def (bits_Div64.p18 y2 s8 yn1 yn0 un32 un1 un0 q r) := by
  rw [bits_Div64.p18_eq]
  refine Def.ite (fun _ => .no (by omega) (p24_def hs h h')) (fun hn => ?_)
  rw [dt, wu_in (by omega) (by omega)] at hn
  rw [wu_in (x := r + yn1) (by omega) (by omega)]
  exact p17_of hs h h' (p18_hi hs h h' (by omega) (by omega))
theorem p18_def (hs : 0 ≤ s8) (h : 2147483648 ≤ yn1) (h' : yn1 < 4294967296) : Def (bits_Div64.p18 y2 s8 yn1 yn0 un32 un1 un0 q r) := by
  rw [bits_Div64.p18_eq]
  refine Def.ite (fun _ => .no (by omega) (p24_def hs h h')) (fun hn => ?_)
  rw [dt] at hn
  have := wu_pos (r + yn1)
  exact p17_of hs h h' (p18_mid hs h h' (by omega) (by omega))
theorem p17_def (hs : 0 ≤ s8) (h : 2147483648 ≤ yn1) (h' : yn1 < 4294967296) : Def (bits_Div64.p17 y2 s8 yn1 yn0 un32 un1 un0 q r) := p17_of hs h h' (p18_def hs h h')
end
theorem div64_def {hi lo y : Int} (h0 : 0 < y) (h1 : y < 18446744073709551616) (h2 : hi < y) : Def (bits_Div64 hi lo y) := by
  rw [bits_Div64_eq, if_neg (by rw [eq_t]; omega), if_neg (by rw [dt]; omega)]
  refine Def.ite (fun _ => .no (by omega) (.no (by omega) (.mk _))) (fun _ => ?_)
  obtain ⟨m, e, hm, q1, q2⟩ := len64 (y := y) (by omega) h1
  rw [bits_LeadingZeros64_eq, e, bind_some_, bind_some_]
  have es : IntKind.u64.wrap (IntKind.i64.wrap (64 - ((m + 1 : Nat) : Int))) = ((63 - m : Nat) : Int) := by
    rw [wi (by omega) (by omega), wu_in (by omega) (by omega)]
    omega
  have es2 : IntKind.u64.wrap (64 - ((63 - m : Nat) : Int)) = ((m + 1 : Nat) : Int) := by
    rw [wu_in (by omega) (by omega)]
    omega
  rw [es, es2]
  have en : min (((63 - m : Nat) : Int)).toNat 64 = 63 - m := by
    rw [Int.toNat_natCast]
    omega
  rw [en]
  have hy : 9223372036854775808 ≤ y * 2 ^ (63 - m) ∧ y * 2 ^ (63 - m) < 18446744073709551616 := by
    obtain ⟨Y, rfl⟩ := Int.eq_ofNat_of_zero_le (show 0 ≤ y by omega)
    rw [Int.toNat_natCast] at q1 q2
    have ep : ((2 : Int) ^ (63 - m)) = ((2 ^ (63 - m) : Nat) : Int) := by simp
    rw [ep, ← Int.natCast_mul]
    have a1 : 2 ^ m * 2 ^ (63 - m) ≤ Y * 2 ^ (63 - m) := Nat.mul_le_mul_right _ q1
    have a2 : Y * 2 ^ (63 - m) < 2 ^ (m + 1) * 2 ^ (63 - m) := Nat.mul_lt_mul_of_pos_right q2 (Nat.two_pow_pos _)
    rw [← Nat.pow_add, show m + (63 - m) = 63 by omega] at a1
    rw [← Nat.pow_add, show m + 1 + (63 - m) = 64 by omega] at a2
    have b1 : (2 : Nat) ^ 63 = 9223372036854775808 := by decide
    have b2 : (2 : Nat) ^ 64 = 18446744073709551616 := by decide
    omega
  rw [wu_in (x := y * 2 ^ (63 - m)) (by omega) hy.2]
  rw [Int.fdiv_eq_ediv_of_nonneg (y * 2 ^ (63 - m)) (show (0 : Int) ≤ 4294967296 by omega)]
  generalize y * 2 ^ (63 - m) = Z at hy ⊢
  refine .no (by omega) (.no (by omega) (.no (by omega) (.no (by omega) (.no (by omega) ?_))))
  exact p17_def (by omega) (by omega) (by omega)
theorem wideDiv_def (w : Int × Int) (d : Int) (hd : d < 9223372036854775808) : Def (num_Wide_Div w d) := by
  have p14 : ∀ (q r : Int) (mo : Int) (w : Int × Int), Def (num_Wide_Div.p14 q r mo w) := by
    intro q r mo w
    rw [num_Wide_Div.p14_eq]
    repeat' (refine Def.ite (fun _ => ?_) (fun _ => ?_))
    all_goals exact .mk _
  have p6 : ∀ (w m : Int × Int), 1 ≤ d → Def (num_Wide_Div.p6 d w m) := by
    intro w m h
    rw [num_Wide_Div.p6_eq]
    refine Def.ite (fun _ => .mk _) (fun hn => ?_)
    rw [dt] at hn
    rw [wu_in (x := d) (by omega) (by omega)] at hn ⊢
    refine (div64_def (by omega) (by omega) (by omega)).bind fun _ _ => ?_
    repeat' (refine Def.ite (fun _ => ?_) (fun _ => ?_))
    all_goals exact p14 _ _ _ _
  rw [num_Wide_Div_eq]
  refine Def.ite (fun _ => .mk _) (fun hn => ?_)
  rw [dt] at hn
  exact Def.ite (fun _ => (neg_def _).bind fun _ _ => p6 _ _ (by omega)) (fun _ => p6 _ _ (by omega))
theorem mulDiv_def (a b c : Int) (hc : c < 9223372036854775808) : Def (num_MulDiv a b c) := by
  rw [num_MulDiv_eq]
  exact (product_def a b).bind fun w _ => (wideDiv_def w c hc).bind fun _ _ => .mk _
theorem roundDiv_def (a b : Int) : Def (num_RoundDiv a b) := by
  have p6 : ∀ q r, Def (num_RoundDiv.p6 b q r) := by
    intro q r
    rw [num_RoundDiv.p6_eq]
    repeat' (refine Def.ite (fun _ => ?_) (fun _ => ?_))
    all_goals exact .mk _
  rw [num_RoundDiv_eq]
  refine Def.ite (fun _ => .mk _) (fun hn => ?_)
  rw [dt] at hn
  refine .no (by omega) (.no (by omega) ?_)
  repeat' (refine Def.ite (fun _ => ?_) (fun _ => ?_))
  all_goals first | exact .mk _ | exact p6 _ _
theorem sqrt_p6 : ∀ (n : Nat) (hi lo r bit : Int), 0 ≤ bit → bit < 2 ^ n → Def (num_SqrtMul.p6 hi lo r bit) := by
  intro n
  induction n with
  | zero =>
    intro hi lo r bit h0 h1
    rw [num_SqrtMul.p6_eq, if_neg (by rw [dt]; simp at h1; omega)]
    exact .mk _
  | succ n ih =>
    intro hi lo r bit h0 h1
    rw [num_SqrtMul.p6_eq]
    refine Def.ite (fun _ => (mul64_def _ _).bind fun _ _ => ?_) (fun _ => .mk _)
    have e : Int.fdiv bit 2 = bit / 2 := Int.fdiv_eq_ediv_of_nonneg _ (by omega)
    have h2 : bit / 2 < 2 ^ n := by
      rw [Int.pow_succ] at h1
      omega
    rw [e]
    repeat' (refine Def.ite (fun _ => ?_) (fun _ => ?_))
    all_goals exact ih _ _ _ _ (by omega) h2
theorem sqrtMul_def (a b : Int) : Def (num_SqrtMul a b) := by
  rw [num_SqrtMul_eq]
  refine Def.ite (fun _ => Def.ite (fun _ => .mk _) (fun _ => (mul64_def _ _).bind fun _ _ => ?_)) (fun _ => .mk _)
  exact sqrt_p6 63 _ _ _ _ (by omega) (by decide)
/-! Nights: the program's check is the reference's. -/
theorem sphereCheck_def (v : Int × Int × Int) : Def (sphere_Check v) := by
  rw [sphere_Check_eq]
  repeat' (refine Def.ite (fun _ => ?_) (fun _ => ?_))
  all_goals exact .mk _
theorem sphereCheck_val {v : Int × Int × Int} {e : Int} (h : sphere_Check v = some e) : (e = 0 ↔ ((-1048576 ≤ v.1 ∧ v.1 ≤ 1048576) ∧ (-1048576 ≤ v.2.1 ∧ v.2.1 ≤ 1048576) ∧ (-1048576 ≤ v.2.2 ∧ v.2.2 ≤ 1048576) ∧ ¬ (v.1 = 0 ∧ v.2.1 = 0 ∧ v.2.2 = 0))) := by
  obtain ⟨x, y, z⟩ := v
  rw [sphere_Check_eq] at h
  simp only [dt, df, Bool.and_eq_true, eq_t] at h ⊢
  have hM : ((if (if x < y then y else x) < z then z else (if x < y then y else x)) > 1048576) ↔ (x > 1048576 ∨ y > 1048576 ∨ z > 1048576) := by
    by_cases h1 : x < y
    · simp only [if_pos h1]
      split <;> omega
    · simp only [if_neg h1]
      split <;> omega
  have hm : ((if z < (if y < x then y else x) then z else (if y < x then y else x)) < (-1048576)) ↔ (x < -1048576 ∨ y < -1048576 ∨ z < -1048576) := by
    by_cases h1 : y < x
    · simp only [if_pos h1]
      split <;> omega
    · simp only [if_neg h1]
      split <;> omega
  simp only [hM, hm] at h
  by_cases h1 : x > 1048576 ∨ y > 1048576 ∨ z > 1048576
  · rw [if_neg (fun q => q h1)] at h
    cases h
    constructor
    · intro q; cases q
    · intro q; omega
  · rw [if_pos h1] at h
    by_cases h2 : x < -1048576 ∨ y < -1048576 ∨ z < -1048576
    · rw [if_pos h2] at h
      cases h
      constructor
      · intro q; cases q
      · intro q; omega
    · rw [if_neg h2] at h
      by_cases h3 : x = 0 ∧ y = 0 ∧ z = 0
      · rw [if_pos h3] at h
        cases h
        constructor
        · intro q; cases q
        · intro q; exact absurd h3 q.2.2.2
      · rw [if_neg h3] at h
        cases h
        exact ⟨fun _ => ⟨by omega, by omega, by omega, h3⟩, fun _ => rfl⟩
theorem dir_val (v : Int × Int × Int) : spyref2_DirOK v = some (decide ((-1048576 ≤ v.1 ∧ v.1 ≤ 1048576) ∧ (-1048576 ≤ v.2.1 ∧ v.2.1 ≤ 1048576) ∧ (-1048576 ≤ v.2.2 ∧ v.2.2 ≤ 1048576) ∧ ¬ (v.1 = 0 ∧ v.2.1 = 0 ∧ v.2.2 = 0))) := by
  obtain ⟨x, y, z⟩ := v
  rw [spyref2_DirOK_eq]
  rw [spyref2_DirOK.p2_eq, if_pos (by decide), if_pos (by decide), if_pos (by decide)]
  show (if (decide (x < (-1048576))) = false then _ else _) = _
  simp only [df, dt]
  by_cases hx : -1048576 ≤ x ∧ x ≤ 1048576
  · rw [if_pos (by omega), if_neg (by show ¬ x > 1048576; omega)]
    rw [show IntKind.i64.wrap (0 + 1) = 1 from by decide +kernel]
    rw [spyref2_DirOK.p2_eq, if_pos (by decide), if_pos (by decide), if_pos (by decide)]
    show (if (decide (y < (-1048576))) = false then _ else _) = _
    simp only [df, dt]
    by_cases hy : -1048576 ≤ y ∧ y ≤ 1048576
    · rw [if_pos (by omega), if_neg (by show ¬ y > 1048576; omega)]
      rw [show IntKind.i64.wrap (1 + 1) = 2 from by decide +kernel]
      rw [spyref2_DirOK.p2_eq, if_pos (by decide), if_pos (by decide), if_pos (by decide)]
      show (if (decide (z < (-1048576))) = false then _ else _) = _
      simp only [df, dt]
      by_cases hz : -1048576 ≤ z ∧ z ≤ 1048576
      · rw [if_pos (by omega), if_neg (by show ¬ z > 1048576; omega)]
        rw [show IntKind.i64.wrap (2 + 1) = 3 from by decide +kernel]
        rw [spyref2_DirOK.p2_eq, if_neg (by decide)]
        congr 1
        rw [Bool.eq_iff_iff]
        simp [hx, hy, hz]
      · have : ¬ ((-1048576 ≤ x ∧ x ≤ 1048576) ∧ (-1048576 ≤ y ∧ y ≤ 1048576) ∧ (-1048576 ≤ z ∧ z ≤ 1048576) ∧ ¬ (x = 0 ∧ y = 0 ∧ z = 0)) := fun q => hz q.2.2.1
        rw [decide_eq_false this]
        refine ite_eq (fun _ => ?_) (fun _ => rfl)
        rw [if_pos (by show z > 1048576; omega)]
    · have : ¬ ((-1048576 ≤ x ∧ x ≤ 1048576) ∧ (-1048576 ≤ y ∧ y ≤ 1048576) ∧ (-1048576 ≤ z ∧ z ≤ 1048576) ∧ ¬ (x = 0 ∧ y = 0 ∧ z = 0)) := fun q => hy q.2.1
      rw [decide_eq_false this]
      refine ite_eq (fun _ => ?_) (fun _ => rfl)
      rw [if_pos (by show y > 1048576; omega)]
  · have : ¬ ((-1048576 ≤ x ∧ x ≤ 1048576) ∧ (-1048576 ≤ y ∧ y ≤ 1048576) ∧ (-1048576 ≤ z ∧ z ≤ 1048576) ∧ ¬ (x = 0 ∧ y = 0 ∧ z = 0)) := fun q => hx q.1
    rw [decide_eq_false this]
    refine ite_eq (fun _ => ?_) (fun _ => rfl)
    rw [if_pos (by show x > 1048576; omega)]
theorem dir_check (v : Int × Int × Int) : ∃ e, sphere_Check v = some e ∧ spyref2_DirOK v = some (decide (e = 0)) := by
  obtain ⟨e, he⟩ := sphereCheck_def v
  refine ⟨e, he, ?_⟩
  rw [dir_val]
  congr 1
  rw [decide_eq_decide]
  exact (sphereCheck_val he).symm
theorem within_in (n a b : Int) : prop_within n a b = spyref2_In n a b := by rw [prop_within_eq, spyref2_In_eq]
theorem in_val (n a b : Int) : spyref2_In n a b = some (decide (a ≤ n ∧ n ≤ b)) := by
  rw [spyref2_In_eq]
  simp only [dt]
  by_cases h : a ≤ n
  · rw [if_pos h]
    simp [h]
  · rw [if_neg h]
    simp [h]
/-! Comparison of fractions. -/
theorem compare_i (x y : Int) : cmp_Compare_int64 x y = some (if x < y then -1 else if x > y then 1 else 0) := by
  rw [cmp_Compare_int64_eq, cmp_isNaN_int64_eq, cmp_isNaN_int64_eq, bind_some_, bind_some_, if_neg (by simp), if_neg (by simp)]
  simp only [dt]
  by_cases h : x < y
  · rw [if_pos h, if_pos h]
  · rw [if_neg h, if_neg h]
    by_cases h2 : x > y
    · rw [if_pos h2, if_pos h2]
    · rw [if_neg h2, if_neg h2]
theorem compare_u (x y : Int) : cmp_Compare_uint64 x y = some (if x < y then -1 else if x > y then 1 else 0) := by
  rw [cmp_Compare_uint64_eq, cmp_isNaN_uint64_eq, cmp_isNaN_uint64_eq, bind_some_, bind_some_, if_neg (by simp), if_neg (by simp)]
  simp only [dt]
  by_cases h : x < y
  · rw [if_pos h, if_pos h]
  · rw [if_neg h, if_neg h]
    by_cases h2 : x > y
    · rw [if_pos h2, if_pos h2]
    · rw [if_neg h2, if_neg h2]
theorem or_two (a b : Int) : cmp_Or_int [a, b] = some (if a ≠ 0 then a else b) := by
  rw [cmp_Or_int_eq, cmp_Or_int.p3_eq, if_pos (by simp), if_pos (by decide), if_pos (by simp)]
  show (if (a != 0) = true then some a else _) = _
  simp only [ne_t]
  by_cases h : a ≠ 0
  · rw [if_pos h, if_pos h]
  · rw [if_neg h, if_neg h, show IntKind.i64.wrap (0 + 1) = 1 from by decide +kernel, cmp_Or_int.p3_eq, if_pos (by simp), if_pos (by decide), if_pos (by simp)]
    show (if (b != 0) = true then some b else _) = _
    simp only [ne_t]
    by_cases hb : b ≠ 0
    · rw [if_pos hb]
    · rw [if_neg hb, show IntKind.i64.wrap (1 + 1) = 2 from by decide +kernel, cmp_Or_int.p3_eq, if_neg (by simp)]
      congr 1
      omega
theorem or_errs (a b : Int) : cmp_Or_api_Errno [a, b] = some (if a ≠ 0 then a else b) := by
  rw [cmp_Or_api_Errno_eq, cmp_Or_api_Errno.p3_eq, if_pos (by simp), if_pos (by decide), if_pos (by simp)]
  show (if (a != 0) = true then some a else _) = _
  simp only [ne_t]
  by_cases h : a ≠ 0
  · rw [if_pos h, if_pos h]
  · rw [if_neg h, if_neg h, show IntKind.i64.wrap (0 + 1) = 1 from by decide +kernel, cmp_Or_api_Errno.p3_eq, if_pos (by simp), if_pos (by decide), if_pos (by simp)]
    show (if (b != 0) = true then some b else _) = _
    simp only [ne_t]
    by_cases hb : b ≠ 0
    · rw [if_pos hb]
    · rw [if_neg hb, show IntKind.i64.wrap (1 + 1) = 2 from by decide +kernel, cmp_Or_api_Errno.p3_eq, if_neg (by simp)]
      congr 1
      omega
theorem wideCmp (a b : Int) (ha : 0 ≤ a) (hb : 0 ≤ b) : num_Wide_Cmp (a / 18446744073709551616, a % 18446744073709551616) (b / 18446744073709551616, b % 18446744073709551616) = some (if a < b then -1 else if a > b then 1 else 0) := by
  rw [num_Wide_Cmp_eq, compare_i, compare_u, bind_some_, bind_some_, or_two, bind_some_]
  congr 1
  simp only
  split <;> split <;> (try split) <;> (try split) <;> (try split) <;> (try split) <;> omega
theorem frac_1 : frac_Check (1, 1) = some 0 := callL_some.2 ⟨200, by kernel_rfl⟩
theorem frac_100 : frac_Check (100, 1) = some 0 := callL_some.2 ⟨200, by kernel_rfl⟩
theorem fracCmp {n d k : Int} (hc : frac_Check (n, d) = some 0) (hn : 1 ≤ n) (hk : frac_Check (k, 1) = some 0) (k0 : 1 ≤ k) : frac_Cmp (n, d) (k, 1) = some (if n < k * d then -1 else if n > k * d then 1 else 0) := by
  have h := fracCheck_ok hc
  have hh := fracCheck_ok hk
  simp only at h hh
  rw [frac_Cmp_eq, frac_both_eq, hc, hk, bind_some_, bind_some_, or_errs, bind_some_, bind_some_, if_neg (by simp)]
  simp only
  rw [product_in (by omega) (by omega) (by omega) (by omega), product_in (by omega) (by omega) (by omega) (by omega), bind_some_, bind_some_, Int.mul_one, wideCmp _ _ (by omega) (Int.mul_nonneg (by omega) (by omega)), bind_some_]
theorem spin_eq (r : Int × Int × Int × Int) : prop_CheckSpin r = spyref2_SpinFault r := by
  rw [prop_CheckSpin_eq, spyref2_SpinFault_eq]
  obtain ⟨e, he⟩ := rate_def r
  rw [he, bind_some_, bind_some_]
  simp only [ne_t, dt, df]
  by_cases h0 : e ≠ 0
  · rw [if_pos h0, if_pos h0]
  · rw [if_neg h0, if_neg h0]
    have : e = 0 := Classical.byContradiction h0
    subst this
    obtain ⟨hc, hn, _⟩ := rate_ok he
    obtain ⟨a, b, n, d⟩ := r
    simp only at hc hn ⊢
    have hb := fracCheck_ok hc
    simp only at hb
    rw [fracCmp hc hn frac_1 (by omega), fracCmp hc hn frac_100 (by omega), bind_some_, bind_some_, Int.one_mul]
    rw [wi (x := n - 1) (by omega) (by omega)]
    rw [Int.tdiv_eq_ediv_of_nonneg (by omega), wi (x := (n - 1) / 100) (by omega) (by omega)]
    have c1 : ((if n < d then (-1 : Int) else if n > d then 1 else 0) < 0) ↔ n < d := by
      split
      · omega
      · split <;> omega
    have c2 : ((if n < 100 * d then (-1 : Int) else if n > 100 * d then 1 else 0) > 0) ↔ n > 100 * d := by
      split
      · omega
      · split <;> omega
    have c3 : ((n - 1) / 100 ≥ d) ↔ n > 100 * d := by omega
    simp only [c1, c2, c3]
theorem spin_def (r : Int × Int × Int × Int) : Def (spyref2_SpinFault r) := by
  rw [spyref2_SpinFault_eq]
  refine (rate_def r).bind fun _ _ => ?_
  repeat' (refine Def.ite (fun _ => ?_) (fun _ => ?_))
  all_goals exact .mk _
theorem spin_ok {r : Int × Int × Int × Int} (h : spyref2_SpinFault r = some 0) : scale_CheckRate r = some 0 := by
  rw [spyref2_SpinFault_eq] at h
  obtain ⟨e, he⟩ := rate_def r
  rw [he, bind_some_] at h
  by_cases h0 : e = 0
  · rw [he, h0]
  · rw [if_pos (by rw [ne_t]; exact h0)] at h
    cases h
    exact absurd rfl h0
theorem clouds_eq (l : List Int) : ∀ (u : Nat) (i : Nat), l.length < 9223372036854775807 → l.length - i = u → i ≤ l.length → prop_CheckNight.p17 l l.length i = spyref2_NightFault.p17 l l.length i ∧ Def (spyref2_NightFault.p17 l l.length i) := by
  intro u
  induction u with
  | zero =>
    intro i hl hu hi
    rw [prop_CheckNight.p17_eq, spyref2_NightFault.p17_eq, if_neg (by rw [dt]; omega), if_neg (by rw [dt]; omega)]
    exact ⟨rfl, .mk _⟩
  | succ u ih =>
    intro i hl hu hi
    obtain ⟨h1, h2⟩ := ih (i + 1) hl (by omega) (by omega)
    have q1 : decide ((i : Int) < (l.length : Int)) = true := by rw [dt]; omega
    have q2 : (0 : Int) ≤ (i : Int) := by omega
    have q3 : (i : Int) < (l.length : Int) := by omega
    have e1 : prop_CheckNight.p17 l l.length i = if (!decide (0 ≤ l.getD (i : Int).toNat 0 ∧ l.getD (i : Int).toNat 0 ≤ 4)) = true then some 4 else prop_CheckNight.p17 l l.length ((i + 1 : Nat) : Int) := by
      rw [prop_CheckNight.p17_eq, if_pos q1, if_pos q2, if_pos q3, within_in, in_val, bind_some_, wi_nat (by omega)]
    have e2 : spyref2_NightFault.p17 l l.length i = if (!decide (0 ≤ l.getD (i : Int).toNat 0 ∧ l.getD (i : Int).toNat 0 ≤ 4)) = true then some 4 else spyref2_NightFault.p17 l l.length ((i + 1 : Nat) : Int) := by
      rw [spyref2_NightFault.p17_eq, if_pos q1, if_pos q2, if_pos q3, in_val, bind_some_, wi_nat (by omega)]
    rw [e1, e2, h1]
    exact ⟨rfl, Def.ite (fun _ => .mk _) (fun _ => h2)⟩
abbrev Night : Type := (Int × Int) × (Int × Int × Int × Int) × Int × Int × Int × (Int × Int × Int) × (Int × Int × Int) × Int × List Int
theorem night_eq (n : Night) : prop_CheckNight n = spyref2_NightFault n ∧ Def (spyref2_NightFault n) := by
  rw [prop_CheckNight_eq, spyref2_NightFault_eq, within_in, in_val, bind_some_, bind_some_, spin_eq]
  obtain ⟨e1, s1, d1⟩ := dir_check n.2.2.2.2.2.1
  obtain ⟨e2, s2, d2⟩ := dir_check n.2.2.2.2.2.2.1
  obtain ⟨e, he⟩ := spin_def n.2.1
  rw [s1, s2, d1, d2, he, bind_some_, bind_some_, bind_some_, bind_some_, bind_some_, bind_some_]
  have hc := fun (h0 : 1 ≤ n.2.2.2.2.1 ∧ n.2.2.2.2.1 ≤ 64) (q : (n.2.2.2.2.2.2.2.2.length : Int) = n.2.2.2.2.1) => clouds_eq n.2.2.2.2.2.2.2.2 _ 0 (by omega) rfl (by omega)
  have hg : ∀ (x y x' y' : Option Int) (c c' : Prop) [Decidable c] [Decidable c'], (c ↔ c') → (c → x = x' ∧ Def x') → (¬ c → y = y' ∧ Def y') → (if c then x else y) = (if c' then x' else y') ∧ Def (if c' then x' else y') := by
    intro x y x' y' c c' _ _ hcc h1 h2
    by_cases h : c
    · rw [if_pos h, if_pos (hcc.1 h)]; exact h1 h
    · rw [if_neg h, if_neg (fun q => h (hcc.2 q))]; exact h2 h
  have four : ∀ a : Int, (some a : Option Int) = some a ∧ Def (some a) := fun a => ⟨rfl, .mk _⟩
  refine hg _ _ _ _ _ _ Iff.rfl (fun h0 => ?_) (fun _ => four _)
  have h0' : 1 ≤ n.2.2.2.2.1 ∧ n.2.2.2.2.1 ≤ 64 := by rw [not_f, dt] at h0; exact h0
  refine hg _ _ _ _ _ _ Iff.rfl (fun _ => ?_) (fun _ => four _)
  refine hg _ _ _ _ _ _ Iff.rfl (fun _ => four _) (fun _ => ?_)
  refine hg _ _ _ _ _ _ Iff.rfl (fun _ => ?_) (fun _ => four _)
  refine hg _ _ _ _ _ _ Iff.rfl (fun _ => four _) (fun _ => ?_)
  refine hg _ _ _ _ _ _ Iff.rfl (fun _ => ?_) (fun _ => four _)
  refine hg _ _ _ _ _ _ Iff.rfl (fun _ => ?_) (fun _ => four _)
  refine hg _ _ _ _ _ _ Iff.rfl (fun _ => ?_) (fun _ => four _)
  refine hg _ _ _ _ _ _ (by rw [dt, dt]; constructor <;> intro q <;> omega) (fun _ => four _) (fun _ => ?_)
  refine hg _ _ _ _ _ _ Iff.rfl (fun _ => four _) (fun _ => ?_)
  refine hg _ _ _ _ _ _ (by simp) (fun _ => ?_) (fun _ => four _)
  refine hg _ _ _ _ _ _ (by simp) (fun _ => four _) (fun _ => ?_)
  refine hg _ _ _ _ _ _ Iff.rfl (fun _ => ?_) (fun _ => four _)
  refine hg _ _ _ _ _ _ Iff.rfl (fun _ => four _) (fun _ => ?_)
  refine hg _ _ _ _ _ _ Iff.rfl (fun _ => four _) (fun hq => ?_)
  exact hc h0' (by rw [ne_t] at hq; omega)
structure NightOk (n : Night) : Prop where
  slots : 1 ≤ n.2.2.2.2.1 ∧ n.2.2.2.2.1 ≤ 64
  long : 60000 ≤ n.2.2.2.1 ∧ n.2.2.2.1 ≤ 1800000
  begin : -8796093022208 ≤ n.2.2.1 ∧ n.2.2.1 ≤ 8796093022208
  lat : -1073741824 ≤ n.1.1 ∧ n.1.1 ≤ 1073741824
  lon : 0 ≤ n.1.2 ∧ n.1.2 ≤ 4294967295
  rate : scale_CheckRate n.2.1 = some 0
  cloud : (n.2.2.2.2.2.2.2.2.length : Int) = n.2.2.2.2.1
theorem ite_some {c : Prop} [Decidable c] {a b : Option Int} (h : (if c then a else b) = some 0) : (c ∧ a = some 0) ∨ (¬ c ∧ b = some 0) := by
  by_cases q : c
  · rw [if_pos q] at h; exact .inl ⟨q, h⟩
  · rw [if_neg q] at h; exact .inr ⟨q, h⟩
theorem ite_0 {c : Prop} [Decidable c] {a : Option Int} {k : Int} (hk : k ≠ 0) (h : (if c then a else some k) = some 0) : c ∧ a = some 0 := (ite_some h).resolve_right fun q => hk (Option.some.inj q.2)
theorem ite_1 {c : Prop} [Decidable c] {a : Option Int} {k : Int} (hk : k ≠ 0) (h : (if c then some k else a) = some 0) : ¬ c ∧ a = some 0 := (ite_some h).resolve_left fun q => hk (Option.some.inj q.2)
theorem ite_e {e : Int} {a : Option Int} (h : (if (e != 0) = true then some e else a) = some 0) : e = 0 ∧ a = some 0 := by
  rcases ite_some h with ⟨q1, q2⟩ | ⟨q1, q2⟩
  · cases q2; simp at q1
  · exact ⟨by simpa using q1, q2⟩
theorem night_ok {n : Night} (h : spyref2_NightFault n = some 0) : NightOk n := by
  rw [spyref2_NightFault_eq, in_val, bind_some_] at h
  obtain ⟨e1, s1, d1⟩ := dir_check n.2.2.2.2.2.1
  obtain ⟨e2, s2, d2⟩ := dir_check n.2.2.2.2.2.2.1
  obtain ⟨e, he⟩ := spin_def n.2.1
  rw [d1, d2, he, bind_some_, bind_some_, bind_some_] at h
  obtain ⟨a1, h⟩ := ite_0 (by omega) h
  obtain ⟨a2, h⟩ := ite_0 (by omega) h
  obtain ⟨a3, h⟩ := ite_1 (by omega) h
  obtain ⟨a4, h⟩ := ite_0 (by omega) h
  obtain ⟨a5, h⟩ := ite_1 (by omega) h
  obtain ⟨a6, h⟩ := ite_0 (by omega) h
  obtain ⟨a7, h⟩ := ite_0 (by omega) h
  obtain ⟨a8, h⟩ := ite_0 (by omega) h
  obtain ⟨a9, h⟩ := ite_1 (by omega) h
  obtain ⟨b1, h⟩ := ite_e h
  obtain ⟨_, h⟩ := ite_0 (by omega) h
  obtain ⟨_, h⟩ := ite_1 (by omega) h
  obtain ⟨_, h⟩ := ite_0 (by omega) h
  obtain ⟨_, h⟩ := ite_1 (by omega) h
  obtain ⟨b2, h⟩ := ite_1 (by omega) h
  subst b1
  simp only [not_f, dt, df, ne_t] at a1 a2 a3 a4 a5 a6 a7 a8 a9 b2
  exact ⟨a1, by omega, by omega, by omega, by omega, spin_ok he, by omega⟩
/-! Bounds: every operation is defined. -/
theorem mulDiv_def' (a b c : Int) : Def (num_MulDiv a b c) := by
  have p14 : ∀ (q r : Int) (mo : Int) (w : Int × Int), Def (num_Wide_Div.p14 q r mo w) := by
    intro q r mo w
    rw [num_Wide_Div.p14_eq]
    repeat' (refine Def.ite (fun _ => ?_) (fun _ => ?_))
    all_goals exact .mk _
  have p6 : ∀ (w m : Int × Int), Def (num_Wide_Div.p6 c w m) := by
    intro w m
    rw [num_Wide_Div.p6_eq]
    refine Def.ite (fun _ => .mk _) (fun hn => ?_)
    rw [dt] at hn
    have h1 := wu_pos c
    have h2 := wu_pos m.1
    refine (div64_def (by omega) (by omega) (by omega)).bind fun _ _ => ?_
    repeat' (refine Def.ite (fun _ => ?_) (fun _ => ?_))
    all_goals exact p14 _ _ _ _
  rw [num_MulDiv_eq]
  refine (product_def a b).bind fun w _ => Def.bind ?_ fun _ _ => .mk _
  rw [num_Wide_Div_eq]
  exact Def.ite (fun _ => .mk _) (fun hn => Def.ite (fun _ => (neg_def _).bind fun _ _ => p6 _ _) (fun _ => p6 _ _))
theorem wideMod_def (w : Int × Int) (d : Int) (hd : d < 18446744073709551616) : Def (num_Wide_Mod w d) := by
  have p6 : ∀ (w m : Int × Int), 1 ≤ d → Def (num_Wide_Mod.p6 d w m) := by
    intro w m h
    rw [num_Wide_Mod.p6_eq, wu_in (x := d) (by omega) (by omega)]
    refine .no (by omega) ?_
    have h1 := wu_pos m.1
    have h2 := Int.tmod_lt_of_pos (IntKind.u64.wrap m.1) (show 0 < d by omega)
    refine (div64_def (by omega) (by omega) h2).bind fun _ _ => ?_
    repeat' (refine Def.ite (fun _ => ?_) (fun _ => ?_))
    all_goals exact .mk _
  rw [num_Wide_Mod_eq]
  refine Def.ite (fun _ => .mk _) (fun hn => ?_)
  rw [dt] at hn
  exact Def.ite (fun _ => (neg_def _).bind fun _ _ => p6 _ _ (by omega)) (fun _ => p6 _ _ (by omega))
theorem wideDiv_def' (w : Int × Int) (d : Int) (hd : d < 9223372036854775808) : Def (num_Wide_Div w d) := wideDiv_def w d hd
theorem mulDivUp_def (a b c : Int) (hc : c < 9223372036854775808) : Def (num_MulDivUp a b c) := by
  rw [num_MulDivUp_eq]
  refine (product_def a b).bind fun w _ => (wideDiv_def w c hc).bind fun _ _ => Def.ite (fun _ => (wideMod_def w c (by omega)).bind fun _ _ => ?_) (fun _ => .mk _)
  repeat' (refine Def.ite (fun _ => ?_) (fun _ => ?_))
  all_goals exact .mk _
abbrev Bd : Type := Int × Int × Bool
/-- What a bound that is not unknown by its own check holds. -/
def InB (b : Bd) : Prop := -1152921504606846976 ≤ b.1 ∧ b.1 ≤ 1152921504606846976 ∧ -1152921504606846976 ≤ b.2.1 ∧ b.2.1 ≤ 1152921504606846976

theorem checkTick (b : Bd) : ∃ e, spyglass_bound_Check_api_Tick b = some e ∧ (e = 0 → InB b) := by
  have p3 : ∃ e, spyglass_bound_Check_api_Tick.p3 b = some e ∧ (e = 0 → InB b) := by
    rw [spyglass_bound_Check_api_Tick.p3_eq]
    simp only [dt, df]
    by_cases h1 : (if b.2.1 < b.1 then b.2.1 else b.1) < (-1152921504606846976)
    · rw [if_neg (fun q => q h1)]
      exact ⟨_, rfl, fun q => by cases q⟩
    · rw [if_pos h1]
      by_cases h2 : (if b.1 < b.2.1 then b.2.1 else b.1) > 1152921504606846976
      · rw [if_pos h2]
        exact ⟨_, rfl, fun q => by cases q⟩
      · rw [if_neg h2]
        have hin : InB b := by
          unfold InB
          refine ⟨?_, ?_, ?_, ?_⟩ <;> (split at h1 <;> split at h2 <;> omega)
        by_cases h3 : b.1 > b.2.1
        · rw [if_pos h3]
          exact ⟨_, rfl, fun q => by cases q⟩
        · rw [if_neg h3]
          exact ⟨_, rfl, fun _ => hin⟩
  rw [spyglass_bound_Check_api_Tick_eq]
  by_cases hu : b.2.2 = true
  · rw [if_pos hu]
    by_cases h1 : b.1 = 0
    · rw [if_pos (by rw [ne_f]; exact h1)]
      by_cases h2 : b.2.1 = 0
      · rw [if_neg (by rw [ne_t]; exact fun q => q h2)]
        exact p3
      · rw [if_pos (by rw [ne_t]; exact h2)]
        exact ⟨_, rfl, fun q => by cases q⟩
    · rw [if_neg (by rw [ne_f]; exact h1)]
      exact ⟨_, rfl, fun q => by cases q⟩
  · rw [if_neg hu]
    exact p3
theorem normTick (b : Bd) : ∃ c, spyglass_bound_Norm_api_Tick b = some c ∧ InB c ∧ (c.2.2 = false → c = b) := by
  obtain ⟨e, h1, h2⟩ := checkTick b
  rw [spyglass_bound_Norm_api_Tick_eq, h1, bind_some_]
  by_cases he : e = 0
  · rw [if_neg (by rw [ne_t]; exact fun q => q he)]
    exact ⟨b, rfl, h2 he, fun _ => rfl⟩
  · rw [if_pos (by rw [ne_t]; exact he), spyglass_bound_None_api_Tick_eq, bind_some_]
    exact ⟨_, rfl, by unfold InB; decide, fun q => by cases q⟩
theorem ofTick (lo hi : Int) : ∃ c, spyglass_bound_Of_api_Tick lo hi = some c ∧ InB c := by
  obtain ⟨c, h1, h2, _⟩ := normTick (lo, hi, false)
  rw [spyglass_bound_Of_api_Tick_eq, h1, bind_some_]
  exact ⟨c, rfl, h2⟩
theorem exactTick (v : Int) : ∃ c, spyglass_bound_Exact_api_Tick v = some c ∧ InB c := by
  obtain ⟨c, h1, h2⟩ := ofTick v v
  rw [spyglass_bound_Exact_api_Tick_eq, h1, bind_some_]
  exact ⟨c, rfl, h2⟩
theorem vagueTick (a b : Bd) : ∃ q, spyglass_bound_vague_api_Tick a b = some q ∧ (q = false → InB a ∧ InB b) := by
  obtain ⟨c, h1, h2, h3⟩ := normTick a
  obtain ⟨d, h4, h5, h6⟩ := normTick b
  rw [spyglass_bound_vague_api_Tick_eq, h1, bind_some_, h4, bind_some_]
  by_cases hc : c.2.2 = false
  · rw [if_pos hc]
    exact ⟨_, rfl, fun q => ⟨h3 hc ▸ h2, h6 q ▸ h5⟩⟩
  · rw [if_neg hc]
    exact ⟨_, rfl, fun q => by cases q⟩
theorem addTick (a b : Bd) : ∃ c, spyglass_bound_Add_api_Tick a b = some c ∧ InB c := by
  obtain ⟨q, h1, h2⟩ := vagueTick a b
  rw [spyglass_bound_Add_api_Tick_eq, h1, bind_some_]
  by_cases hq : q = true
  · rw [if_pos hq, spyglass_bound_None_api_Tick_eq, bind_some_]
    exact ⟨_, rfl, by unfold InB; decide⟩
  · rw [if_neg hq]
    obtain ⟨c, h3, h4⟩ := ofTick (IntKind.i64.wrap (a.1 + b.1)) (IntKind.i64.wrap (a.2.1 + b.2.1))
    rw [h3, bind_some_]
    exact ⟨c, rfl, h4⟩

theorem negTick (b : Bd) : ∃ c, spyglass_bound_Neg_api_Tick b = some c ∧ InB c := by
  obtain ⟨c, h1, h2, _⟩ := normTick b
  rw [spyglass_bound_Neg_api_Tick_eq, h1, bind_some_]
  unfold InB at h2
  refine ⟨_, rfl, ?_⟩
  unfold InB
  simp only
  rw [wi (x := 0 - c.2.1) (by omega) (by omega), wi (x := 0 - c.1) (by omega) (by omega)]
  omega

theorem checkArc (b : Bd) : ∃ e, spyglass_bound_Check_api_Arc b = some e ∧ (e = 0 → InB b) := by
  have p3 : ∃ e, spyglass_bound_Check_api_Arc.p3 b = some e ∧ (e = 0 → InB b) := by
    rw [spyglass_bound_Check_api_Arc.p3_eq]
    simp only [dt, df]
    by_cases h1 : (if b.2.1 < b.1 then b.2.1 else b.1) < (-1152921504606846976)
    · rw [if_neg (fun q => q h1)]
      exact ⟨_, rfl, fun q => by cases q⟩
    · rw [if_pos h1]
      by_cases h2 : (if b.1 < b.2.1 then b.2.1 else b.1) > 1152921504606846976
      · rw [if_pos h2]
        exact ⟨_, rfl, fun q => by cases q⟩
      · rw [if_neg h2]
        have hin : InB b := by
          unfold InB
          refine ⟨?_, ?_, ?_, ?_⟩ <;> (split at h1 <;> split at h2 <;> omega)
        by_cases h3 : b.1 > b.2.1
        · rw [if_pos h3]
          exact ⟨_, rfl, fun q => by cases q⟩
        · rw [if_neg h3]
          exact ⟨_, rfl, fun _ => hin⟩
  rw [spyglass_bound_Check_api_Arc_eq]
  by_cases hu : b.2.2 = true
  · rw [if_pos hu]
    by_cases h1 : b.1 = 0
    · rw [if_pos (by rw [ne_f]; exact h1)]
      by_cases h2 : b.2.1 = 0
      · rw [if_neg (by rw [ne_t]; exact fun q => q h2)]
        exact p3
      · rw [if_pos (by rw [ne_t]; exact h2)]
        exact ⟨_, rfl, fun q => by cases q⟩
    · rw [if_neg (by rw [ne_f]; exact h1)]
      exact ⟨_, rfl, fun q => by cases q⟩
  · rw [if_neg hu]
    exact p3
theorem normArc (b : Bd) : ∃ c, spyglass_bound_Norm_api_Arc b = some c ∧ InB c ∧ (c.2.2 = false → c = b) := by
  obtain ⟨e, h1, h2⟩ := checkArc b
  rw [spyglass_bound_Norm_api_Arc_eq, h1, bind_some_]
  by_cases he : e = 0
  · rw [if_neg (by rw [ne_t]; exact fun q => q he)]
    exact ⟨b, rfl, h2 he, fun _ => rfl⟩
  · rw [if_pos (by rw [ne_t]; exact he), spyglass_bound_None_api_Arc_eq, bind_some_]
    exact ⟨_, rfl, by unfold InB; decide, fun q => by cases q⟩
theorem ofArc (lo hi : Int) : ∃ c, spyglass_bound_Of_api_Arc lo hi = some c ∧ InB c := by
  obtain ⟨c, h1, h2, _⟩ := normArc (lo, hi, false)
  rw [spyglass_bound_Of_api_Arc_eq, h1, bind_some_]
  exact ⟨c, rfl, h2⟩
theorem exactArc (v : Int) : ∃ c, spyglass_bound_Exact_api_Arc v = some c ∧ InB c := by
  obtain ⟨c, h1, h2⟩ := ofArc v v
  rw [spyglass_bound_Exact_api_Arc_eq, h1, bind_some_]
  exact ⟨c, rfl, h2⟩
theorem vagueArc (a b : Bd) : ∃ q, spyglass_bound_vague_api_Arc a b = some q ∧ (q = false → InB a ∧ InB b) := by
  obtain ⟨c, h1, h2, h3⟩ := normArc a
  obtain ⟨d, h4, h5, h6⟩ := normArc b
  rw [spyglass_bound_vague_api_Arc_eq, h1, bind_some_, h4, bind_some_]
  by_cases hc : c.2.2 = false
  · rw [if_pos hc]
    exact ⟨_, rfl, fun q => ⟨h3 hc ▸ h2, h6 q ▸ h5⟩⟩
  · rw [if_neg hc]
    exact ⟨_, rfl, fun q => by cases q⟩
theorem addArc (a b : Bd) : ∃ c, spyglass_bound_Add_api_Arc a b = some c ∧ InB c := by
  obtain ⟨q, h1, h2⟩ := vagueArc a b
  rw [spyglass_bound_Add_api_Arc_eq, h1, bind_some_]
  by_cases hq : q = true
  · rw [if_pos hq, spyglass_bound_None_api_Arc_eq, bind_some_]
    exact ⟨_, rfl, by unfold InB; decide⟩
  · rw [if_neg hq]
    obtain ⟨c, h3, h4⟩ := ofArc (IntKind.i64.wrap (a.1 + b.1)) (IntKind.i64.wrap (a.2.1 + b.2.1))
    rw [h3, bind_some_]
    exact ⟨c, rfl, h4⟩

theorem checkFix (b : Bd) : ∃ e, spyglass_bound_Check_api_Fix b = some e ∧ (e = 0 → InB b) := by
  have p3 : ∃ e, spyglass_bound_Check_api_Fix.p3 b = some e ∧ (e = 0 → InB b) := by
    rw [spyglass_bound_Check_api_Fix.p3_eq]
    simp only [dt, df]
    by_cases h1 : (if b.2.1 < b.1 then b.2.1 else b.1) < (-1152921504606846976)
    · rw [if_neg (fun q => q h1)]
      exact ⟨_, rfl, fun q => by cases q⟩
    · rw [if_pos h1]
      by_cases h2 : (if b.1 < b.2.1 then b.2.1 else b.1) > 1152921504606846976
      · rw [if_pos h2]
        exact ⟨_, rfl, fun q => by cases q⟩
      · rw [if_neg h2]
        have hin : InB b := by
          unfold InB
          refine ⟨?_, ?_, ?_, ?_⟩ <;> (split at h1 <;> split at h2 <;> omega)
        by_cases h3 : b.1 > b.2.1
        · rw [if_pos h3]
          exact ⟨_, rfl, fun q => by cases q⟩
        · rw [if_neg h3]
          exact ⟨_, rfl, fun _ => hin⟩
  rw [spyglass_bound_Check_api_Fix_eq]
  by_cases hu : b.2.2 = true
  · rw [if_pos hu]
    by_cases h1 : b.1 = 0
    · rw [if_pos (by rw [ne_f]; exact h1)]
      by_cases h2 : b.2.1 = 0
      · rw [if_neg (by rw [ne_t]; exact fun q => q h2)]
        exact p3
      · rw [if_pos (by rw [ne_t]; exact h2)]
        exact ⟨_, rfl, fun q => by cases q⟩
    · rw [if_neg (by rw [ne_f]; exact h1)]
      exact ⟨_, rfl, fun q => by cases q⟩
  · rw [if_neg hu]
    exact p3
theorem normFix (b : Bd) : ∃ c, spyglass_bound_Norm_api_Fix b = some c ∧ InB c ∧ (c.2.2 = false → c = b) := by
  obtain ⟨e, h1, h2⟩ := checkFix b
  rw [spyglass_bound_Norm_api_Fix_eq, h1, bind_some_]
  by_cases he : e = 0
  · rw [if_neg (by rw [ne_t]; exact fun q => q he)]
    exact ⟨b, rfl, h2 he, fun _ => rfl⟩
  · rw [if_pos (by rw [ne_t]; exact he), spyglass_bound_None_api_Fix_eq, bind_some_]
    exact ⟨_, rfl, by unfold InB; decide, fun q => by cases q⟩
theorem ofFix (lo hi : Int) : ∃ c, spyglass_bound_Of_api_Fix lo hi = some c ∧ InB c := by
  obtain ⟨c, h1, h2, _⟩ := normFix (lo, hi, false)
  rw [spyglass_bound_Of_api_Fix_eq, h1, bind_some_]
  exact ⟨c, rfl, h2⟩
theorem exactFix (v : Int) : ∃ c, spyglass_bound_Exact_api_Fix v = some c ∧ InB c := by
  obtain ⟨c, h1, h2⟩ := ofFix v v
  rw [spyglass_bound_Exact_api_Fix_eq, h1, bind_some_]
  exact ⟨c, rfl, h2⟩
theorem vagueFix (a b : Bd) : ∃ q, spyglass_bound_vague_api_Fix a b = some q ∧ (q = false → InB a ∧ InB b) := by
  obtain ⟨c, h1, h2, h3⟩ := normFix a
  obtain ⟨d, h4, h5, h6⟩ := normFix b
  rw [spyglass_bound_vague_api_Fix_eq, h1, bind_some_, h4, bind_some_]
  by_cases hc : c.2.2 = false
  · rw [if_pos hc]
    exact ⟨_, rfl, fun q => ⟨h3 hc ▸ h2, h6 q ▸ h5⟩⟩
  · rw [if_neg hc]
    exact ⟨_, rfl, fun q => by cases q⟩
theorem addFix (a b : Bd) : ∃ c, spyglass_bound_Add_api_Fix a b = some c ∧ InB c := by
  obtain ⟨q, h1, h2⟩ := vagueFix a b
  rw [spyglass_bound_Add_api_Fix_eq, h1, bind_some_]
  by_cases hq : q = true
  · rw [if_pos hq, spyglass_bound_None_api_Fix_eq, bind_some_]
    exact ⟨_, rfl, by unfold InB; decide⟩
  · rw [if_neg hq]
    obtain ⟨c, h3, h4⟩ := ofFix (IntKind.i64.wrap (a.1 + b.1)) (IntKind.i64.wrap (a.2.1 + b.2.1))
    rw [h3, bind_some_]
    exact ⟨c, rfl, h4⟩

theorem negFix (b : Bd) : ∃ c, spyglass_bound_Neg_api_Fix b = some c ∧ InB c := by
  obtain ⟨c, h1, h2, _⟩ := normFix b
  rw [spyglass_bound_Neg_api_Fix_eq, h1, bind_some_]
  unfold InB at h2
  refine ⟨_, rfl, ?_⟩
  unfold InB
  simp only
  rw [wi (x := 0 - c.2.1) (by omega) (by omega), wi (x := 0 - c.1) (by omega) (by omega)]
  omega

theorem subTick (a b : Bd) : ∃ c, spyglass_bound_Sub_api_Tick a b = some c ∧ InB c := by
  obtain ⟨c, h1, _⟩ := negTick b
  obtain ⟨d, h2, h3⟩ := addTick a c
  rw [spyglass_bound_Sub_api_Tick_eq, h1, bind_some_, h2, bind_some_]
  exact ⟨d, rfl, h3⟩
theorem minFix {l : List Int} (h : 1 ≤ l.length) (h2 : l.length < 1000) : Def (slices_Min_api_Fix l) := by
  have p5 : ∀ (u : Nat) (m : Int) (i : Nat), l.length - i = u → i ≤ l.length → Def (slices_Min_api_Fix.p5 l m i) := by
    intro u
    induction u with
    | zero =>
      intro m i hu hi
      rw [slices_Min_api_Fix.p5_eq, if_neg (by rw [dt]; omega)]
      exact .mk _
    | succ u ih =>
      intro m i hu hi
      rw [slices_Min_api_Fix.p5_eq, if_pos (by rw [dt]; omega)]
      refine .yes (by omega) (.yes (by omega) ?_)
      rw [wi_nat (by omega)]
      exact ih _ (i + 1) (by omega) (by omega)
  rw [slices_Min_api_Fix_eq]
  refine .no (by rw [dt]; omega) (.yes (by omega) ?_)
  exact p5 _ _ 1 rfl (by omega)
theorem maxFix {l : List Int} (h : 1 ≤ l.length) (h2 : l.length < 1000) : Def (slices_Max_api_Fix l) := by
  have p5 : ∀ (u : Nat) (m : Int) (i : Nat), l.length - i = u → i ≤ l.length → Def (slices_Max_api_Fix.p5 l m i) := by
    intro u
    induction u with
    | zero =>
      intro m i hu hi
      rw [slices_Max_api_Fix.p5_eq, if_neg (by rw [dt]; omega)]
      exact .mk _
    | succ u ih =>
      intro m i hu hi
      rw [slices_Max_api_Fix.p5_eq, if_pos (by rw [dt]; omega)]
      refine .yes (by omega) (.yes (by omega) ?_)
      rw [wi_nat (by omega)]
      exact ih _ (i + 1) (by omega) (by omega)
  rw [slices_Max_api_Fix_eq]
  refine .no (by rw [dt]; omega) (.yes (by omega) ?_)
  exact p5 _ _ 1 rfl (by omega)

theorem step {d u x y1 y2 t23 t24 : Int} {t22 : List Int} {b5 b8 : Bd} {acc : List Int} (hu : u < 9223372036854775808) (hl : acc.length < 1000) (next : ∀ acc' : List Int, acc'.length = acc.length + 4 → ∃ c, spyglass_bound_corners_api_Fix.p3 d u t22 t23 (IntKind.i64.wrap (t24 + 1)) b5 b8 acc' = some c ∧ InB c) : ∃ c, spyglass_bound_corners_api_Fix.p6 d u x t22 t23 t24 [y1, y2] 2 0 b5 b8 acc = some c ∧ InB c := by
  have bad : ∃ c : Bd, ((spyglass_bound_None_api_Fix).bind fun r2 => some r2) = some c ∧ InB c := by
    rw [spyglass_bound_None_api_Fix_eq, bind_some_]
    exact ⟨_, rfl, by unfold InB; decide⟩
  have one : ∀ (y : Int) (acc1 : List Int) (i : Int) (j : Nat), i = j → j < 2 → [y1, y2].getD j 0 = y → acc1.length < 1010 → (∀ r r1 : Int, ∃ c, spyglass_bound_corners_api_Fix.p6 d u x t22 t23 t24 [y1, y2] 2 (IntKind.i64.wrap (i + 1)) b5 b8 (acc1 ++ [r, r1]) = some c ∧ InB c) → ∃ c, spyglass_bound_corners_api_Fix.p6 d u x t22 t23 t24 [y1, y2] 2 i b5 b8 acc1 = some c ∧ InB c := by
    intro y acc1 i j hi hj hy hl1 hn
    rw [spyglass_bound_corners_api_Fix.p6_eq, if_pos (by rw [dt]; omega), if_pos (by omega), if_pos (by simp; omega), hi, toNat_nat, hy]
    obtain ⟨r, hr⟩ : Def (spyglass_bound_Mul_api_Fix_c1 x y d) := by
      rw [spyglass_bound_Mul_api_Fix_c1_eq]
      exact (mulDiv_def' _ _ _).bind fun _ _ => .mk _
    obtain ⟨r1, hr1⟩ : Def (spyglass_bound_Mul_api_Fix_c2 x y u) := by
      rw [spyglass_bound_Mul_api_Fix_c2_eq]
      exact (mulDivUp_def _ _ _ hu).bind fun _ _ => .mk _
    rw [hr, hr1, bind_some_, bind_some_]
    by_cases e1 : r.2 = 0
    · rw [if_pos (by rw [ne_f]; exact e1)]
      by_cases e2 : r1.2 = 0
      · rw [if_neg (by rw [ne_t]; exact fun q => q e2), if_pos (by omega)]
        have := hn r.1 r1.1
        rw [hi] at this
        exact this
      · rw [if_pos (by rw [ne_t]; exact e2)]
        exact bad
    · rw [if_neg (by rw [ne_f]; exact e1)]
      exact bad
  refine one y1 acc 0 0 rfl (by omega) rfl (by omega) fun r r1 => ?_
  rw [show IntKind.i64.wrap (0 + 1) = 1 from by decide +kernel]
  refine one y2 _ 1 1 rfl (by omega) rfl (by simp; omega) fun r2 r3 => ?_
  rw [show IntKind.i64.wrap (1 + 1) = 2 from by decide +kernel, spyglass_bound_corners_api_Fix.p6_eq, if_neg (by decide)]
  exact next _ (by simp)
theorem corners {d u : Int} {a b : Bd} (hu : u < 9223372036854775808) : ∃ c, spyglass_bound_corners_api_Fix a b d u = some c ∧ InB c := by
  rw [spyglass_bound_corners_api_Fix_eq, spyglass_bound_corners_api_Fix.p3_eq, if_pos (by decide), if_pos (by decide), if_pos (by simp)]
  refine step hu (by simp) fun acc hacc => ?_
  rw [show IntKind.i64.wrap (0 + 1) = 1 from by decide +kernel, spyglass_bound_corners_api_Fix.p3_eq, if_pos (by decide), if_pos (by decide), if_pos (by simp)]
  refine step hu (by simp at hacc; omega) fun acc' hacc' => ?_
  rw [show IntKind.i64.wrap (1 + 1) = 2 from by decide +kernel, spyglass_bound_corners_api_Fix.p3_eq, if_neg (by decide)]
  simp at hacc
  obtain ⟨x, hx⟩ := minFix (l := acc') (by omega) (by omega)
  obtain ⟨y, hy⟩ := maxFix (l := acc') (by omega) (by omega)
  obtain ⟨c, h1, h2⟩ := ofFix x y
  rw [hx, hy, bind_some_, bind_some_, h1, bind_some_]
  exact ⟨c, rfl, h2⟩

theorem step_1 {d u x y1 y2 t23 t24 : Int} {t22 : List Int} {b5 b8 : Bd} {acc : List Int} (h1 : y1 < 9223372036854775808) (h2 : y2 < 9223372036854775808) (hl : acc.length < 1000) (next : ∀ acc' : List Int, acc'.length = acc.length + 4 → ∃ c, spyglass_bound_corners_api_Fix_1.p3 d u t22 t23 (IntKind.i64.wrap (t24 + 1)) b5 b8 acc' = some c ∧ InB c) : ∃ c, spyglass_bound_corners_api_Fix_1.p6 d u x t22 t23 t24 [y1, y2] 2 0 b5 b8 acc = some c ∧ InB c := by
  have bad : ∃ c : Bd, ((spyglass_bound_None_api_Fix).bind fun r2 => some r2) = some c ∧ InB c := by
    rw [spyglass_bound_None_api_Fix_eq, bind_some_]
    exact ⟨_, rfl, by unfold InB; decide⟩
  have one : ∀ (y : Int) (acc1 : List Int) (i : Int) (j : Nat), i = j → j < 2 → [y1, y2].getD j 0 = y → acc1.length < 1010 → (∀ r r1 : Int, ∃ c, spyglass_bound_corners_api_Fix_1.p6 d u x t22 t23 t24 [y1, y2] 2 (IntKind.i64.wrap (i + 1)) b5 b8 (acc1 ++ [r, r1]) = some c ∧ InB c) → ∃ c, spyglass_bound_corners_api_Fix_1.p6 d u x t22 t23 t24 [y1, y2] 2 i b5 b8 acc1 = some c ∧ InB c := by
    intro y acc1 i j hi hj hy hl1 hn
    rw [spyglass_bound_corners_api_Fix_1.p6_eq, if_pos (by rw [dt]; omega), if_pos (by omega), if_pos (by simp; omega), hi, toNat_nat, hy]
    obtain ⟨r, hr⟩ : Def (spyglass_bound_Div_api_Fix_c1 x y d) := by
      rw [spyglass_bound_Div_api_Fix_c1_eq]
      exact (mulDiv_def' _ _ _).bind fun _ _ => .mk _
    obtain ⟨r1, hr1⟩ : Def (spyglass_bound_Div_api_Fix_c2 x y u) := by
      rw [spyglass_bound_Div_api_Fix_c2_eq]
      exact (mulDivUp_def _ _ _ (by rcases (show j = 0 ∨ j = 1 by omega) with rfl | rfl <;> (subst hy; assumption))).bind fun _ _ => .mk _
    rw [hr, hr1, bind_some_, bind_some_]
    by_cases e1 : r.2 = 0
    · rw [if_pos (by rw [ne_f]; exact e1)]
      by_cases e2 : r1.2 = 0
      · rw [if_neg (by rw [ne_t]; exact fun q => q e2), if_pos (by omega)]
        have := hn r.1 r1.1
        rw [hi] at this
        exact this
      · rw [if_pos (by rw [ne_t]; exact e2)]
        exact bad
    · rw [if_neg (by rw [ne_f]; exact e1)]
      exact bad
  refine one y1 acc 0 0 rfl (by omega) rfl (by omega) fun r r1 => ?_
  rw [show IntKind.i64.wrap (0 + 1) = 1 from by decide +kernel]
  refine one y2 _ 1 1 rfl (by omega) rfl (by simp; omega) fun r2 r3 => ?_
  rw [show IntKind.i64.wrap (1 + 1) = 2 from by decide +kernel, spyglass_bound_corners_api_Fix_1.p6_eq, if_neg (by decide)]
  exact next _ (by simp)
theorem corners_1 {d u : Int} {a b : Bd} (h1 : b.1 < 9223372036854775808) (h2 : b.2.1 < 9223372036854775808) : ∃ c, spyglass_bound_corners_api_Fix_1 a b d u = some c ∧ InB c := by
  rw [spyglass_bound_corners_api_Fix_1_eq, spyglass_bound_corners_api_Fix_1.p3_eq, if_pos (by decide), if_pos (by decide), if_pos (by simp)]
  refine step_1 h1 h2 (by simp) fun acc hacc => ?_
  rw [show IntKind.i64.wrap (0 + 1) = 1 from by decide +kernel, spyglass_bound_corners_api_Fix_1.p3_eq, if_pos (by decide), if_pos (by decide), if_pos (by simp)]
  refine step_1 h1 h2 (by simp at hacc; omega) fun acc' hacc' => ?_
  rw [show IntKind.i64.wrap (1 + 1) = 2 from by decide +kernel, spyglass_bound_corners_api_Fix_1.p3_eq, if_neg (by decide)]
  simp at hacc
  obtain ⟨x, hx⟩ := minFix (l := acc') (by omega) (by omega)
  obtain ⟨y, hy⟩ := maxFix (l := acc') (by omega) (by omega)
  obtain ⟨c, h1, h2⟩ := ofFix x y
  rw [hx, hy, bind_some_, bind_some_, h1, bind_some_]
  exact ⟨c, rfl, h2⟩

theorem bad_fix : ∃ c : Bd, ((spyglass_bound_None_api_Fix).bind fun r2 => some r2) = some c ∧ InB c := by
  rw [spyglass_bound_None_api_Fix_eq, bind_some_]
  exact ⟨_, rfl, by unfold InB; decide⟩
theorem mulFix (a b : Bd) (u : Int) (hu : u < 9223372036854775808) : ∃ c, spyglass_bound_Mul_api_Fix a b u = some c ∧ InB c := by
  obtain ⟨q, h1, _⟩ := vagueFix a b
  rw [spyglass_bound_Mul_api_Fix_eq, h1, bind_some_]
  by_cases hq : q = false
  · rw [if_pos hq]
    by_cases hc : u < 1
    · rw [if_pos (by rw [dt]; exact hc)]
      exact bad_fix
    · rw [if_neg (by rw [dt]; exact hc)]
      obtain ⟨c, h2, h3⟩ := corners (d := u) (u := u) (a := a) (b := b) hu
      rw [h2, bind_some_]
      exact ⟨c, rfl, h3⟩
  · rw [if_neg hq]
    exact bad_fix
theorem scaleFix (a : Bd) (n d : Int) (hd : d < 9223372036854775808) : ∃ c, spyglass_bound_Scale_api_Fix a n d = some c ∧ InB c := by
  obtain ⟨e, h1, _⟩ := exactFix n
  obtain ⟨c, h2, h3⟩ := mulFix a e d hd
  rw [spyglass_bound_Scale_api_Fix_eq, h1, bind_some_, h2, bind_some_]
  exact ⟨c, rfl, h3⟩
theorem rootFix (a : Bd) (u : Int) : ∃ c, spyglass_bound_Root_api_Fix a u = some c ∧ InB c := by
  obtain ⟨q, h1, _⟩ := vagueFix a a
  rw [spyglass_bound_Root_api_Fix_eq, h1, bind_some_]
  by_cases hq : q = false
  · rw [if_pos hq]
    by_cases hc : u < 1
    · rw [if_neg (by rw [df]; exact fun q => q hc)]
      exact bad_fix
    · rw [if_pos (by rw [df]; exact hc)]
      by_cases hn : a.2.1 < 0
      · rw [if_pos (by rw [dt]; exact hn)]
        exact bad_fix
      · rw [if_neg (by rw [dt]; exact hn)]
        obtain ⟨x, hx⟩ := sqrtMul_def (if a.1 < 0 then 0 else a.1) u
        obtain ⟨y, hy⟩ := sqrtMul_def a.2.1 u
        obtain ⟨z, hz⟩ := product_def y y
        obtain ⟨t, ht⟩ := product_def a.2.1 u
        obtain ⟨w, hw⟩ : Def (num_Wide_Cmp z t) := by
          rw [num_Wide_Cmp_eq, compare_i, compare_u, bind_some_, bind_some_, or_two]
          exact .mk _
        rw [hx, hy, bind_some_, bind_some_, hz, ht, bind_some_, bind_some_, hw, bind_some_]
        by_cases hc2 : w < 0
        · rw [if_pos (by rw [dt]; exact hc2)]
          obtain ⟨c, h2, h3⟩ := ofFix x (IntKind.i64.wrap (y + 1))
          rw [h2, bind_some_]
          exact ⟨c, rfl, h3⟩
        · rw [if_neg (by rw [dt]; exact hc2)]
          obtain ⟨c, h2, h3⟩ := ofFix x y
          rw [h2, bind_some_]
          exact ⟨c, rfl, h3⟩
  · rw [if_neg hq]
    exact bad_fix
theorem divFix (a b : Bd) (u : Int) : ∃ c, spyglass_bound_Div_api_Fix a b u = some c ∧ InB c := by
  obtain ⟨q, h1, h2⟩ := vagueFix a b
  rw [spyglass_bound_Div_api_Fix_eq, h1, bind_some_]
  by_cases hq : q = false
  · rw [if_pos hq]
    obtain ⟨ia, ib⟩ := h2 hq
    unfold InB at ib
    have p3 : ∃ c, spyglass_bound_Div_api_Fix.p3 a b u (0, 0, false) = some c ∧ InB c := by
      rw [spyglass_bound_Div_api_Fix.p3_eq]
      by_cases hn : b.2.1 < 0
      · rw [if_pos (by rw [dt]; exact hn)]
        obtain ⟨x, hx, _⟩ := negFix a
        obtain ⟨y, hy, iy⟩ := negFix b
        unfold InB at iy
        obtain ⟨c, h3, h4⟩ := corners_1 (d := u) (u := u) (a := x) (b := y) (by omega) (by omega)
        rw [hx, hy, bind_some_, bind_some_, h3, bind_some_]
        exact ⟨c, rfl, h4⟩
      · rw [if_neg (by rw [dt]; exact hn)]
        obtain ⟨c, h3, h4⟩ := corners_1 (d := u) (u := u) (a := a) (b := b) (by omega) (by omega)
        rw [h3, bind_some_]
        exact ⟨c, rfl, h4⟩
    by_cases hc : u < 1
    · rw [if_neg (by rw [df]; exact fun q => q hc)]
      exact bad_fix
    · rw [if_pos (by rw [df]; exact hc)]
      by_cases h3 : b.1 ≤ 0
      · rw [if_pos (by rw [dt]; exact h3)]
        by_cases h4 : b.2.1 ≥ 0
        · rw [if_pos (by rw [dt]; exact h4)]
          exact bad_fix
        · rw [if_neg (by rw [dt]; exact h4)]
          exact p3
      · rw [if_neg (by rw [dt]; exact h3)]
        exact p3
  · rw [if_neg hq]
    exact bad_fix
theorem meetFix (a b : Bd) : Def (spyglass_bound_Meet_api_Fix a b) := by
  obtain ⟨c, h1, _⟩ := normFix a
  obtain ⟨d, h2, _⟩ := normFix b
  rw [spyglass_bound_Meet_api_Fix_eq, h1, h2, bind_some_, bind_some_]
  refine Def.ite (fun _ => .mk _) (fun _ => Def.ite (fun _ => .mk _) (fun _ => Def.ite (fun _ => .mk _) (fun _ => ?_)))
  obtain ⟨e, h3, _⟩ := ofFix (if c.1 < d.1 then d.1 else c.1) (if d.2.1 < c.2.1 then d.2.1 else c.2.1)
  rw [h3, bind_some_]
  exact .mk _
/-! Sines, directions: defined for every argument. -/
theorem sin_series : ∀ (l : List Int), (∀ k, k ∈ l → k ≠ 0) → l.length < 1000 → ∀ (u : Nat) (s : Int) (i : Nat) (x : Int), l.length - i = u → i ≤ l.length → Def (trig_series.p3 x s l l.length i) := by
  intro l hl hn u
  induction u with
  | zero =>
    intro s i x hu hi
    rw [trig_series.p3_eq, if_neg (by rw [dt]; omega)]
    exact .mk _
  | succ u ih =>
    intro s i x hu hi
    rw [trig_series.p3_eq, if_pos (by rw [dt]; omega), if_pos (by omega), if_pos (by omega), trig_times_eq]
    refine Def.bind ?_ fun r _ => ?_
    · exact (mulDiv_def _ _ _ (by omega)).bind fun _ _ => .mk _
    · have hi' : i < l.length := by omega
      rw [toNat_nat, getD_nat _ _ hi', wi_nat (by omega)]
      exact .no (hl _ (List.getElem_mem hi')) (ih _ (i + 1) x (by omega) (by omega))
theorem series_def (x : Int) (l : List Int) (h : ∀ k, k ∈ l → k ≠ 0) (hn : l.length < 1000) : Def (trig_series x l) := by
  rw [trig_series_eq]
  exact sin_series l h hn _ _ 0 x rfl (by omega)
theorem times_def (a b : Int) : Def (trig_times a b) := by
  rw [trig_times_eq]
  exact (mulDiv_def _ _ _ (by omega)).bind fun _ _ => .mk _
theorem quarter_def (t : Int) : Def (trig_quarter t) := by
  have p4 : ∀ (t : Int) (b : Bool), Def (trig_quarter.p4 t b) := by
    intro t b
    rw [trig_quarter.p4_eq]
    refine (mulDiv_def _ _ _ (by omega)).bind fun _ _ => (times_def _ _).bind fun _ _ => Def.ite (fun _ => ?_) (fun _ => ?_)
    · exact (series_def _ _ (by decide) (by decide)).bind fun _ _ => (roundDiv_def _ _).bind fun _ _ => .mk _
    · exact (series_def _ _ (by decide) (by decide)).bind fun _ _ => (times_def _ _).bind fun _ _ => (roundDiv_def _ _).bind fun _ _ => .mk _
  rw [trig_quarter_eq]
  exact Def.ite (fun _ => p4 _ _) (fun _ => p4 _ _)
theorem sin_def (a : Int) : Def (trig_Sin a) := by
  rw [trig_Sin_eq]
  repeat' (refine Def.ite (fun _ => ?_) (fun _ => ?_))
  all_goals exact (quarter_def _).bind fun _ _ => .mk _
theorem cos_def (a : Int) : Def (trig_Cos a) := by
  rw [trig_Cos_eq]
  exact (sin_def _).bind fun _ _ => .mk _
theorem grow_p3 (b : Int × Int × Int) : ∀ (u : Nat) (v : Int × Int × Int), (-1048576 ≤ v.1 ∧ v.1 ≤ 1048576) → (-1048576 ≤ v.2.1 ∧ v.2.1 ≤ 1048576) → (-1048576 ≤ v.2.2 ∧ v.2.2 ≤ 1048576) → ¬ (v.1 = 0 ∧ v.2.1 = 0 ∧ v.2.2 = 0) → 3145728 - (v.1.natAbs + v.2.1.natAbs + v.2.2.natAbs) ≤ u → Def (sphere_Grow.p3 v b) := by
  intro u
  induction u with
  | zero =>
    intro v h1 h2 h3 h4 h5
    rw [sphere_Grow.p3_eq, wi (x := 2 * v.1) (by omega) (by omega), wi (x := 2 * v.2.1) (by omega) (by omega), wi (x := 2 * v.2.2) (by omega) (by omega)]
    refine (sphereCheck_def _).bind fun e he => Def.ite (fun _ => .mk _) (fun hq => ?_)
    have : e = 0 := by simpa using hq
    have hv := (sphereCheck_val he).1 this
    simp only at hv
    omega
  | succ u ih =>
    intro v h1 h2 h3 h4 h5
    rw [sphere_Grow.p3_eq, wi (x := 2 * v.1) (by omega) (by omega), wi (x := 2 * v.2.1) (by omega) (by omega), wi (x := 2 * v.2.2) (by omega) (by omega)]
    refine (sphereCheck_def _).bind fun e he => Def.ite (fun _ => .mk _) (fun hq => ?_)
    have : e = 0 := by simpa using hq
    have hv := (sphereCheck_val he).1 this
    simp only at hv
    exact ih _ hv.1 hv.2.1 hv.2.2.1 hv.2.2.2 (by simp only; omega)
theorem grow_def (v : Int × Int × Int) : Def (sphere_Grow v) := by
  rw [sphere_Grow_eq]
  refine (sphereCheck_def _).bind fun e he => Def.ite (fun _ => .mk _) (fun hq => ?_)
  have : e = 0 := by simpa using hq
  have hv := (sphereCheck_val he).1 this
  exact grow_p3 _ 3145728 v hv.1 hv.2.1 hv.2.2.1 hv.2.2.2 (by omega)
theorem site_def (s : Int × Int) : Def (horizon_CheckSite s) := by
  rw [horizon_CheckSite_eq]
  repeat' (refine Def.ite (fun _ => ?_) (fun _ => ?_))
  all_goals exact .mk _
/-! Great numbers: their operations are defined. -/
theorem len32_def (x : Int) : Def (bits_Len32 x) := by
  have p7 : ∀ x n, Def (bits_Len32.p7 x n) := by
    intro x n
    rw [bits_Len32.p7_eq]
    have h0 : 0 ≤ IntKind.u8.wrap x ∧ IntKind.u8.wrap x < 256 := by rw [IntKind.wrap_u8]; omega
    exact .yes h0.1 (.yes (Int.lt_of_lt_of_le h0.2 (by decide +kernel)) (.mk _))
  have p4 : ∀ x n, Def (bits_Len32.p4 x n) := by
    intro x n
    rw [bits_Len32.p4_eq]
    exact Def.ite (fun _ => p7 _ _) (fun _ => p7 _ _)
  rw [bits_Len32_eq]
  exact Def.ite (fun _ => p4 _ _) (fun _ => p4 _ _)
theorem trim_ok : ∀ (u : Nat) (m : List Int), m.length ≤ u → m.length < 1000 → ∃ r, big_trim.p1 m = some r ∧ r.length ≤ m.length := by
  intro u
  induction u with
  | zero =>
    intro m hu hm
    rw [big_trim.p1_eq, if_neg (by rw [dt]; omega)]
    exact ⟨m, rfl, Nat.le_refl _⟩
  | succ u ih =>
    intro m hu hm
    rw [big_trim.p1_eq]
    by_cases h : (m.length : Int) > 0
    · rw [if_pos (by rw [dt]; exact h), wi (x := (m.length : Int) - 1) (by omega) (by omega), if_pos (by omega), if_pos (by omega)]
      by_cases hz : ((m.getD ((m.length : Int) - 1).toNat 0) == 0) = true
      · rw [if_pos hz, if_pos (by omega), if_pos (by omega)]
        have e : (m.take ((m.length : Int) - 1).toNat).length = m.length - 1 := by
          rw [List.length_take]
          omega
        obtain ⟨r, h1, h2⟩ := ih (m.take ((m.length : Int) - 1).toNat) (by omega) (by omega)
        exact ⟨r, h1, by omega⟩
      · rw [if_neg hz]
        exact ⟨m, rfl, Nat.le_refl _⟩
    · rw [if_neg (by rw [dt]; exact h)]
      exact ⟨m, rfl, Nat.le_refl _⟩
theorem made_ok (b : Bool) (m : List Int) (hm : m.length < 1000) : ∃ r, big_made b m = some r ∧ r.2.length ≤ m.length := by
  obtain ⟨r, h1, h2⟩ := trim_ok m.length m (Nat.le_refl _) hm
  rw [big_made_eq, big_trim_eq, h1, bind_some_]
  by_cases h : b = true
  · rw [if_pos h]
    exact ⟨_, rfl, h2⟩
  · rw [if_neg h]
    exact ⟨_, rfl, h2⟩
theorem bigOf_ok (x : Int) : ∃ r, big_Of x = some r ∧ r.2.length ≤ 2 := by
  rw [big_Of_eq]
  by_cases h : decide (x < 0) = true
  · rw [if_pos h]
    obtain ⟨r, h1, h2⟩ := made_ok (decide (x < 0)) [IntKind.u32.wrap (IntKind.u64.wrap (0 - (IntKind.u64.wrap (x)))), IntKind.u32.wrap (Int.fdiv (IntKind.u64.wrap (0 - (IntKind.u64.wrap (x)))) 4294967296)] (by simp)
    rw [h1, bind_some_]
    exact ⟨r, rfl, h2⟩
  · rw [if_neg h]
    obtain ⟨r, h1, h2⟩ := made_ok (decide (x < 0)) [IntKind.u32.wrap (IntKind.u64.wrap (x)), IntKind.u32.wrap (Int.fdiv (IntKind.u64.wrap (x)) 4294967296)] (by simp)
    rw [h1, bind_some_]
    exact ⟨r, rfl, h2⟩
theorem bits_def (a : Bool × List Int) (h : a.2.length < 1000) : Def (big_Bits a) := by
  rw [big_Bits_eq]
  refine Def.ite (fun _ => .mk _) (fun hn => ?_)
  rw [eq_t] at hn
  rw [wi (x := (a.2.length : Int) - 1) (by omega) (by omega)]
  exact .yes (by omega) (.yes (by omega) ((len32_def _).bind fun _ _ => .mk _))
theorem limited_ok (b : Bool) (m : List Int) (hm : m.length < 1000) : ∃ r, big_limited b m = some r ∧ r.1.2.length ≤ m.length := by
  obtain ⟨r, h1, h2⟩ := made_ok b m hm
  obtain ⟨k, hk⟩ := bits_def r (by omega)
  rw [big_limited_eq, h1, bind_some_, hk, bind_some_]
  by_cases h : decide (k > 131072) = true
  · rw [if_pos h]
    exact ⟨_, rfl, by simp⟩
  · rw [if_neg h]
    exact ⟨_, rfl, h2⟩
section
variable {a b c : Bool × List Int}
theorem mul_p9 {i : Nat} {x : Int} (hi : i < a.2.length) (ha : a.2.length < 400) (hb : b.2.length < 400) (next : ∀ acc : List Int, acc.length = a.2.length + b.2.length → ∃ r, big_Mul.p5 a.2 (a.2.length : Int) ((i + 1 : Nat) : Int) a b c acc = some r ∧ r.1.2.length ≤ a.2.length + b.2.length) :
    ∀ (u j : Nat) (cy : Int) (acc : List Int), b.2.length - j = u → j ≤ b.2.length → acc.length = a.2.length + b.2.length → ∃ r, big_Mul.p9 (i : Int) x cy a.2 (a.2.length : Int) (i : Int) b.2 (b.2.length : Int) (j : Int) a b c acc = some r ∧ r.1.2.length ≤ a.2.length + b.2.length := by
  intro u
  induction u with
  | zero =>
    intro j cy acc hu hj hacc
    rw [big_Mul.p9_eq, if_neg (by rw [dt]; omega), wi (x := (i : Int) + (b.2.length : Int)) (by omega) (by omega), if_pos (by omega), if_pos (by omega), wi_nat (by omega)]
    exact next _ (by rw [List.length_set]; exact hacc)
  | succ u ih =>
    intro j cy acc hu hj hacc
    rw [big_Mul.p9_eq, if_pos (by rw [dt]; omega), if_pos (by omega), if_pos (by omega), wi (x := (i : Int) + (j : Int)) (by omega) (by omega), if_pos (by omega), if_pos (by omega), if_pos (by omega), if_pos (by omega), wi_nat (by omega)]
    exact ih (j + 1) _ _ (by omega) (by omega) (by rw [List.length_set]; exact hacc)
theorem mul_p5 (ha : a.2.length < 400) (hb : b.2.length < 400) : ∀ (u i : Nat) (acc : List Int), a.2.length - i = u → i ≤ a.2.length → acc.length = a.2.length + b.2.length → ∃ r, big_Mul.p5 a.2 (a.2.length : Int) (i : Int) a b c acc = some r ∧ r.1.2.length ≤ a.2.length + b.2.length := by
  intro u
  induction u with
  | zero =>
    intro i acc hu hi hacc
    rw [big_Mul.p5_eq, if_neg (by rw [dt]; omega)]
    obtain ⟨r, h1, h2⟩ := limited_ok (!(a.1 == b.1)) acc (by omega)
    rw [h1, bind_some_]
    exact ⟨r, rfl, by omega⟩
  | succ u ih =>
    intro i acc hu hi hacc
    rw [big_Mul.p5_eq, if_pos (by rw [dt]; omega), if_pos (by omega), if_pos (by omega)]
    exact mul_p9 (by omega) ha hb (fun acc' h => ih (i + 1) acc' (by omega) (by omega) h) b.2.length 0 0 acc (by omega) (by omega) hacc
theorem bigMul_ok (ha : a.2.length < 400) (hb : b.2.length < 400) : ∃ r, big_Mul a b = some r ∧ r.1.2.length ≤ a.2.length + b.2.length := by
  obtain ⟨x, hx⟩ := bits_def a (by omega)
  obtain ⟨y, hy⟩ := bits_def b (by omega)
  rw [big_Mul_eq, hx, hy, bind_some_, bind_some_]
  by_cases h : decide (IntKind.i64.wrap (x + y) > 131073) = true
  · rw [if_pos h]
    exact ⟨_, rfl, by simp⟩
  · rw [if_neg h, if_pos rfl, wi (x := (a.2.length : Int) + (b.2.length : Int)) (by omega) (by omega), if_pos (by omega), if_pos (by omega)]
    exact mul_p5 ha hb a.2.length 0 _ (by omega) (by omega) (by rw [List.length_replicate]; omega)
theorem sphereMul_ok (ha : a.2.length < 400) (hb : b.2.length < 400) : ∃ r, sphere_mul a b = some r ∧ r.2.length ≤ a.2.length + b.2.length := by
  obtain ⟨r, h1, h2⟩ := bigMul_ok ha hb
  rw [sphere_mul_eq, h1, bind_some_]
  exact ⟨_, rfl, h2⟩
end
theorem square_ok (x : Int) : ∃ r, sphere_square x = some r ∧ r.2.length ≤ 4 := by
  obtain ⟨a, h1, h2⟩ := bigOf_ok x
  obtain ⟨r, h3, h4⟩ := sphereMul_ok (a := a) (b := a) (by omega) (by omega)
  rw [sphere_square_eq, h1, bind_some_, bind_some_, h3, bind_some_]
  exact ⟨r, rfl, by omega⟩
theorem norms_ok (u v : Int × Int × Int) : ∃ r, sphere_norms u v = some r ∧ r.2.length ≤ 4 := by
  rw [sphere_norms_eq, sphere_dot_eq, sphere_dot_eq, bind_some_]
  obtain ⟨a, h1, h2⟩ := bigOf_ok (IntKind.i64.wrap ((IntKind.i64.wrap ((IntKind.i64.wrap (u.1 * u.1)) + (IntKind.i64.wrap (u.2.1 * u.2.1)))) + (IntKind.i64.wrap (u.2.2 * u.2.2))))
  obtain ⟨b, h3, h4⟩ := bigOf_ok (IntKind.i64.wrap ((IntKind.i64.wrap ((IntKind.i64.wrap (v.1 * v.1)) + (IntKind.i64.wrap (v.2.1 * v.2.1)))) + (IntKind.i64.wrap (v.2.2 * v.2.2))))
  obtain ⟨r, h5, h6⟩ := sphereMul_ok (a := a) (b := b) (by omega) (by omega)
  rw [h1, bind_some_, bind_some_, h3, bind_some_, h5, bind_some_]
  exact ⟨r, rfl, by omega⟩
theorem cmpInt_def (x y : Int) : Def (cmp_Compare_int x y) := by
  rw [cmp_Compare_int_eq, cmp_isNaN_int_eq, cmp_isNaN_int_eq, bind_some_, bind_some_]
  repeat' (refine Def.ite (fun _ => ?_) (fun _ => ?_))
  all_goals exact .mk _
theorem cmpU_def (x y : Int) : Def (cmp_Compare_uint32 x y) := by
  rw [cmp_Compare_uint32_eq, cmp_isNaN_uint32_eq, cmp_isNaN_uint32_eq, bind_some_, bind_some_]
  repeat' (refine Def.ite (fun _ => ?_) (fun _ => ?_))
  all_goals exact .mk _
theorem cmpMag_def (a b : List Int) (ha : a.length < 1000) (hb : b.length < 1000) : Def (big_cmpMag a b) := by
  rw [big_cmpMag_eq]
  refine Def.ite (fun _ => (cmpInt_def _ _).bind fun _ _ => .mk _) (fun hn => ?_)
  rw [ne_t] at hn
  have e : a.length = b.length := by omega
  have p4 : ∀ (u : Nat), u ≤ a.length → Def (big_cmpMag.p4 a b ((u : Int) - 1)) := by
    intro u
    induction u with
    | zero =>
      intro _
      rw [big_cmpMag.p4_eq, if_neg (by rw [dt]; omega)]
      exact .mk _
    | succ u ih =>
      intro hu
      rw [big_cmpMag.p4_eq, if_pos (by rw [dt]; omega)]
      refine .yes (by omega) (.yes (by omega) (.yes (by omega) (.yes (by omega) (Def.ite (fun _ => ?_) (fun _ => ?_)))))
      · exact .yes (by omega) (.yes (by omega) (.yes (by omega) (.yes (by omega) ((cmpU_def _ _).bind fun _ _ => .mk _))))
      · rw [show (((u + 1 : Nat) : Int) - 1) = (u : Int) by omega, wi (x := (u : Int) - 1) (by omega) (by omega)]
        exact ih (by omega)
  rw [wi (x := (a.length : Int) - 1) (by omega) (by omega)]
  exact p4 a.length (Nat.le_refl _)
theorem bigCmp_def (a b : Bool × List Int) (ha : a.2.length < 1000) (hb : b.2.length < 1000) : Def (big_Cmp a b) := by
  have sg : ∀ a, Def (big_Sign a) := by
    intro a
    rw [big_Sign_eq]
    repeat' (refine Def.ite (fun _ => ?_) (fun _ => ?_))
    all_goals exact .mk _
  rw [big_Cmp_eq]
  refine Def.ite (fun _ => (sg _).bind fun _ _ => (sg _).bind fun _ _ => (cmpInt_def _ _).bind fun _ _ => .mk _) (fun _ => Def.ite (fun _ => ?_) (fun _ => ?_))
  · exact (cmpMag_def _ _ hb ha).bind fun _ _ => .mk _
  · exact (cmpMag_def _ _ ha hb).bind fun _ _ => .mk _
theorem cos_p6 {d : Int} {b : Bd} {n g : Bool × List Int} (hn : n.2.length ≤ 4) (hg : g.2.length ≤ 8) : ∀ (u : Nat) (lo hi : Int), 0 ≤ lo → lo ≤ hi → hi ≤ 1073741825 → hi - lo ≤ u → Def (sphere_Cosine.p6 d lo hi b n g) := by
  intro u
  induction u with
  | zero =>
    intro lo hi h0 h1 h2 h3
    rw [sphere_Cosine.p6_eq, wi (x := hi - lo) (by omega) (by omega), if_neg (by rw [dt]; omega)]
    obtain ⟨x, e1, e2⟩ := square_ok lo
    obtain ⟨y, e3, e4⟩ := sphereMul_ok (a := x) (b := n) (by omega) (by omega)
    rw [e1, bind_some_, e3, bind_some_]
    refine (bigCmp_def _ _ (by omega) (by omega)).bind fun _ _ => ?_
    repeat' (refine Def.ite (fun _ => ?_) (fun _ => ?_))
    all_goals exact .mk _
  | succ u ih =>
    intro lo hi h0 h1 h2 h3
    rw [sphere_Cosine.p6_eq, wi (x := hi - lo) (by omega) (by omega), wi (x := lo + hi) (by omega) (by omega), Int.tdiv_eq_ediv_of_nonneg (by omega), wi (x := (lo + hi) / 2) (by omega) (by omega)]
    refine Def.ite (fun h => ?_) (fun _ => ?_)
    · rw [dt] at h
      obtain ⟨x, e1, e2⟩ := square_ok ((lo + hi) / 2)
      obtain ⟨y, e3, e4⟩ := sphereMul_ok (a := x) (b := n) (by omega) (by omega)
      rw [e1, bind_some_, e3, bind_some_]
      refine (bigCmp_def _ _ (by omega) (by omega)).bind fun _ _ => Def.ite (fun _ => ?_) (fun _ => ?_)
      · exact ih _ _ (by omega) (by omega) (by omega) (by omega)
      · exact ih _ _ (by omega) (by omega) (by omega) (by omega)
    · obtain ⟨x, e1, e2⟩ := square_ok lo
      obtain ⟨y, e3, e4⟩ := sphereMul_ok (a := x) (b := n) (by omega) (by omega)
      rw [e1, bind_some_, e3, bind_some_]
      refine (bigCmp_def _ _ (by omega) (by omega)).bind fun _ _ => ?_
      repeat' (refine Def.ite (fun _ => ?_) (fun _ => ?_))
      all_goals exact .mk _
theorem cosine_def (u v : Int × Int × Int) : Def (sphere_Cosine u v) := by
  have both : Def (sphere_both u v) := by
    rw [sphere_both_eq]
    exact (sphereCheck_def _).bind fun _ _ => Def.ite (fun _ => (sphereCheck_def _).bind fun _ _ => .mk _) (fun _ => .mk _)
  rw [sphere_Cosine_eq]
  refine both.bind fun _ _ => Def.ite (fun _ => .mk _) (fun _ => ?_)
  rw [sphere_dot_eq, bind_some_]
  obtain ⟨n, h1, h2⟩ := norms_ok u v
  obtain ⟨x, h3, h4⟩ := square_ok (IntKind.i64.wrap ((IntKind.i64.wrap ((IntKind.i64.wrap (u.1 * v.1)) + (IntKind.i64.wrap (u.2.1 * v.2.1)))) + (IntKind.i64.wrap (u.2.2 * v.2.2))))
  obtain ⟨y, h5, h6⟩ := square_ok 1073741824
  obtain ⟨g, h7, h8⟩ := sphereMul_ok (a := x) (b := y) (by omega) (by omega)
  rw [h1, bind_some_, h3, bind_some_, h5, bind_some_, h7, bind_some_]
  exact cos_p6 h2 (by omega) 1073741825 0 1073741825 (by omega) (by omega) (by omega) (by omega)
/-! Heights are defined. -/
theorem floorDiv_def (a b : Int) : Def (num_FloorDiv a b) := by
  rw [num_FloorDiv_eq]
  refine Def.ite (fun _ => .mk _) (fun h => ?_)
  rw [dt] at h
  exact .no (by omega) (.no (by omega) (Def.ite (fun _ => .mk _) (fun _ => .mk _)))
theorem meets_def (a : Bd) (c : Int) : Def (trig_meets a c) := by
  rw [trig_meets_eq]
  exact (floorDiv_def _ _).bind fun _ _ => (ceilDiv_def _ _).bind fun _ _ => .mk _
theorem Def.of {α : Type} {o : Option α} {p : α → Prop} (h : ∃ c, o = some c ∧ p c) : Def o := ⟨h.choose, h.choose_spec.1⟩
theorem wave_def (a : Bd) (p : Int) : Def (trig_wave a p) := by
  have p8 : ∀ (p lo hi : Int) (a b : Bd), Def (trig_wave.p8 p lo hi a b) := by
    intro p lo hi a b
    rw [trig_wave.p8_eq]
    exact (meets_def _ _).bind fun _ _ => Def.ite (fun _ => (Def.of (ofFix _ _)).bind fun _ _ => .mk _) (fun _ => (Def.of (ofFix _ _)).bind fun _ _ => .mk _)
  rw [trig_wave_eq]
  refine (Def.of (normArc a)).bind fun _ _ => Def.ite (fun _ => ?_) (fun _ => ?_)
  · rw [spyglass_bound_None_api_Fix_eq]
    exact .mk _
  · exact (cos_def _).bind fun _ _ => (cos_def _).bind fun _ _ => (meets_def _ _).bind fun _ _ => Def.ite (fun _ => p8 _ _ _ _ _) (fun _ => p8 _ _ _ _ _)
theorem wave1_def (a : Bd) (p : Int) : Def (trig_wave_1 a p) := by
  have p8 : ∀ (p lo hi : Int) (a b : Bd), Def (trig_wave_1.p8 p lo hi a b) := by
    intro p lo hi a b
    rw [trig_wave_1.p8_eq]
    exact (meets_def _ _).bind fun _ _ => Def.ite (fun _ => (Def.of (ofFix _ _)).bind fun _ _ => .mk _) (fun _ => (Def.of (ofFix _ _)).bind fun _ _ => .mk _)
  rw [trig_wave_1_eq]
  refine (Def.of (normArc a)).bind fun _ _ => Def.ite (fun _ => ?_) (fun _ => ?_)
  · rw [spyglass_bound_None_api_Fix_eq]
    exact .mk _
  · exact (sin_def _).bind fun _ _ => (sin_def _).bind fun _ _ => (meets_def _ _).bind fun _ _ => Def.ite (fun _ => p8 _ _ _ _ _) (fun _ => p8 _ _ _ _ _)
theorem cosB_def (a : Bd) : Def (trig_CosBound a) := by
  rw [trig_CosBound_eq]
  exact (wave_def _ _).bind fun _ _ => .mk _
theorem sinB_def (a : Bd) : Def (trig_SinBound a) := by
  rw [trig_SinBound_eq]
  exact (wave1_def _ _).bind fun _ _ => .mk _
theorem sidereal_def (r : Int × Int × Int × Int) (t : Bd) : Def (scale_Sidereal r t) := by
  have bad : Def ((spyglass_bound_None_api_Arc).bind fun r4 => some r4) := by
    rw [spyglass_bound_None_api_Arc_eq]
    exact .mk _
  rw [scale_Sidereal_eq]
  refine (Def.of (exactTick _)).bind fun _ _ => (Def.of (subTick _ _)).bind fun _ _ => (rate_def r).bind fun e he => Def.ite (fun hq => Def.ite (fun _ => bad) (fun _ => ?_)) (fun _ => bad)
  have : e = 0 := by simpa using hq
  subst this
  have h2 := fracCheck_ok (rate_ok he).1
  refine (mulDiv_def' _ _ _).bind fun _ _ => (mulDivUp_def _ _ _ (by omega)).bind fun _ _ => Def.ite (fun _ => Def.ite (fun _ => bad) (fun _ => ?_)) (fun _ => bad)
  exact (Def.of (ofArc _ _)).bind fun _ _ => (Def.of (exactArc _)).bind fun _ _ => (Def.of (addArc _ _)).bind fun _ _ => .mk _
theorem height_def (s : Int × Int) (t : Bd) (v : Int × Int × Int) : Def (horizon_Height s t v) := by
  rw [horizon_Height_eq]
  refine (site_def _).bind fun _ _ => (sphereCheck_def _).bind fun _ _ => ?_
  rw [or_errs, bind_some_]
  refine Def.ite (fun _ => ?_) (fun _ => ?_)
  · rw [spyglass_bound_None_api_Fix_eq]
    exact .mk _
  refine (grow_def _).bind fun _ _ => (Def.of (exactArc _)).bind fun _ _ => (Def.of (addArc _ _)).bind fun _ _ => (Def.of (exactArc _)).bind fun _ _ => (cosB_def _).bind fun _ _ => (Def.of (scaleFix _ _ _ (by omega))).bind fun _ _ => (sinB_def _).bind fun _ _ => (Def.of (scaleFix _ _ _ (by omega))).bind fun _ _ => (Def.of (addFix _ _)).bind fun _ _ => (sinB_def _).bind fun _ _ => (Def.of (scaleFix _ _ _ (by omega))).bind fun _ _ => (cosB_def _).bind fun _ _ => (Def.of (mulFix _ _ _ (by omega))).bind fun _ _ => (Def.of (addFix _ _)).bind fun _ _ => (Def.of (exactFix _)).bind fun _ _ => (Def.of (rootFix _ _)).bind fun _ _ => (Def.of (divFix _ _ _)).bind fun _ _ => Def.ite (fun _ => .mk _) (fun _ => ?_)
  exact (Def.of (ofFix _ _)).bind fun _ _ => (meetFix _ _).bind fun _ _ => .mk _
/-! Two computations with one answer. -/
def Same {α : Type} (p : α → Prop) (x y : Option α) : Prop := ∃ r, x = some r ∧ y = some r ∧ p r
theorem Same.mk {α : Type} {p : α → Prop} (a : α) (h : p a) : Same p (some a) (some a) := ⟨a, rfl, rfl, h⟩
theorem Same.ite {α : Type} {p : α → Prop} {c c' : Prop} [Decidable c] [Decidable c'] {a b a' b' : Option α} (h : c ↔ c') (h1 : c → Same p a a') (h2 : ¬ c → Same p b b') : Same p (if c then a else b) (if c' then a' else b') := by
  by_cases q : c
  · rw [if_pos q, if_pos (h.1 q)]; exact h1 q
  · rw [if_neg q, if_neg (fun k => q (h.2 k))]; exact h2 q
theorem Same.bind {α β : Type} {p : α → Prop} {q : β → Prop} {x y : Option β} {f g : β → Option α} (h : Same q x y) (k : ∀ r, q r → Same p (f r) (g r)) : Same p (x.bind f) (y.bind g) := by
  obtain ⟨r, h1, h2, h3⟩ := h
  rw [h1, h2]
  exact k r h3
theorem Same.of {α : Type} {p : α → Prop} {x y : Option α} (h1 : x = y) (h2 : ∃ r, y = some r ∧ p r) : Same p x y := by
  obtain ⟨r, h2, h3⟩ := h2
  exact ⟨r, h1.trans h2, h2, h3⟩
theorem Same.imp {α : Type} {p q : α → Prop} {x y : Option α} (h : Same p x y) (k : ∀ r, p r → q r) : Same q x y := by
  obtain ⟨r, h1, h2, h3⟩ := h
  exact ⟨r, h1, h2, k r h3⟩
/-- One more test on one side. -/
theorem Same.left {α : Type} {p : α → Prop} {c : Prop} [Decidable c] {a b y : Option α} (h1 : c → Same p a y) (h2 : ¬ c → Same p b y) : Same p (if c then a else b) y := by
  by_cases q : c
  · rw [if_pos q]; exact h1 q
  · rw [if_neg q]; exact h2 q
theorem Same.right {α : Type} {p : α → Prop} {c : Prop} [Decidable c] {a b x : Option α} (h1 : c → Same p x a) (h2 : ¬ c → Same p x b) : Same p x (if c then a else b) := by
  by_cases q : c
  · rw [if_pos q]; exact h1 q
  · rw [if_neg q]; exact h2 q
theorem Same.law {α : Type} {p : α → Prop} {x y : Option α} {f : α → α → Bool} (h : Same p x y) (hf : ∀ r, p r → f r r = true) : (x.bind fun a => y.bind fun b => some (f a b)) = some true := by
  obtain ⟨r, h1, h2, h3⟩ := h
  rw [h1, h2]
  show some (f r r) = some true
  rw [hf r h3]

end Go.Proofs.YtdcbapdakaaeoaaGreat.Pure
