/- Totals of wide numbers. -/
import Derived.Test.YtionphbdphbpnaaGreatEA0
import Derived.Test.YtionphbdphbpnaaGreatEA1
import Derived.Test.YtionphbdphbpnaaGreatEA2
import Derived.Test.YtionphbdphbpnaaGreatEA3
import Derived.Test.YtionphbdphbpnaaGreatEA4
import Derived.Test.YtionphbdphbpnaaGreatPl
namespace Go.Proofs.YtionphbdphbpnaaGreat.Pure
set_option linter.unusedVariables false
set_option linter.unusedSimpArgs false
open Go Go.RowKit Go.Proofs.YtionphbdphbpnaaGreat.Pv Go.Proofs.YtionphbdphbpnaaGreat.Pl Go.Proofs.YtionphbdphbpnaaGreat.EA

/-! Whole numbers: what is defined, for every argument. -/
def Def {α : Type} (o : Option α) : Prop := ∃ r, o = some r
theorem Def.mk {α : Type} (a : α) : Def (some a) := ⟨a, rfl⟩
theorem Def.bind {α β : Type} {x : Option α} {f : α → Option β} (h : Def x) (k : ∀ r, x = some r → Def (f r)) : Def (x.bind f) := by
  obtain ⟨r, h⟩ := h
  rw [h]
  exact k r h
theorem Def.ite {α : Type} {c : Prop} [Decidable c] {a b : Option α} (h1 : c → Def a) (h2 : ¬ c → Def b) : Def (if c then a else b) := by
  by_cases h : c
  · rw [if_pos h]; exact h1 h
  · rw [if_neg h]; exact h2 h
theorem Def.no {α : Type} {c : Prop} [Decidable c] {b : Option α} (h1 : ¬ c) (h2 : Def b) : Def (if c then none else b) := by rw [if_neg h1]; exact h2
theorem Def.yes {α : Type} {c : Prop} [Decidable c] {a : Option α} (h1 : c) (h2 : Def a) : Def (if c then a else none) := by rw [if_pos h1]; exact h2
theorem wu (x : Int) : IntKind.u64.wrap x = x % 18446744073709551616 := by
  simp [IntKind.wrap, IntKind.bits, IntKind.signed]
theorem wu_in {x : Int} (h0 : 0 ≤ x) (h1 : x < 18446744073709551616) : IntKind.u64.wrap x = x := IntWalk.u64_in x ⟨h0, by omega⟩
theorem wu_pos (x : Int) : 0 ≤ IntKind.u64.wrap x ∧ IntKind.u64.wrap x < 18446744073709551616 := by rw [wu]; omega
theorem wi_pos (x : Int) : -9223372036854775808 ≤ IntKind.i64.wrap x ∧ IntKind.i64.wrap x ≤ 9223372036854775807 := by rw [IntKind.wrap_i64]; omega
theorem and32 (x : Int) : bitop .and .u64 x 4294967295 = x % 4294967296 := by
  show ((BitVec.ofInt 64 x &&& BitVec.ofInt 64 4294967295).toNat : Int) = _
  rw [BitVec.toNat_and, BitVec.toNat_ofInt, BitVec.toNat_ofInt]
  have e : ((4294967295 : Int) % ((2 ^ 64 : Nat) : Int)).toNat = 2 ^ 32 - 1 := by decide
  rw [e, Nat.and_two_pow_sub_one_eq_mod]
  omega
theorem or_lt {x y : Int} : 0 ≤ bitop .or .u64 x y ∧ bitop .or .u64 x y < 18446744073709551616 := by
  unfold bitop
  have := (BitVec.ofInt IntKind.u64.bits x ||| BitVec.ofInt IntKind.u64.bits y).isLt
  simp only [IntKind.bits] at this ⊢
  omega
theorem size_def (a : Int) : Def (num_size a) := by
  rw [num_size_eq]
  exact Def.ite (fun _ => .mk _) (fun _ => .mk _)
theorem size_pos {a r : Int} (h : num_size a = some r) : 0 ≤ r ∧ r < 18446744073709551616 := by
  rw [num_size_eq] at h
  split at h <;> cases h <;> exact wu_pos _
theorem size_in {a : Int} (h0 : 0 ≤ a) (h1 : a < 18446744073709551616) : num_size a = some a := by
  rw [num_size_eq, if_neg (by rw [dt]; omega), wu_in h0 h1]
theorem gcd_p2 : ∀ (n : Nat) (x y : Int), 0 ≤ x → 0 ≤ y → y ≤ n → Def (num_Gcd.p2 x y) := by
  intro n
  induction n with
  | zero =>
    intro x y _ hy hn
    rw [num_Gcd.p2_eq, if_neg (by rw [dt]; omega)]
    exact .mk _
  | succ n ih =>
    intro x y hx hy hn
    rw [num_Gcd.p2_eq]
    refine Def.ite (fun h => ?_) (fun _ => .mk _)
    rw [dt] at h
    rw [if_neg (by omega)]
    have h1 := Int.tmod_lt_of_pos x (show 0 < y by omega)
    have h2 := Int.tmod_nonneg y hx
    exact ih _ _ hy h2 (by omega)
theorem gcd_def (a b : Int) : Def (num_Gcd a b) := by
  rw [num_Gcd_eq]
  refine (size_def a).bind fun r hr => (size_def b).bind fun r1 hr1 => ?_
  have h1 := size_pos hr
  have h2 := size_pos hr1
  exact gcd_p2 18446744073709551616 r r1 h1.1 h2.1 (by omega)
theorem fracCheck_def (x : Int × Int) : Def (frac_Check x) := by
  rw [frac_Check_eq]
  repeat' (refine Def.ite (fun _ => ?_) (fun _ => ?_))
  all_goals first | exact .mk _ | exact (gcd_def _ _).bind fun r _ => Def.ite (fun _ => .mk _) (fun _ => .mk _)
theorem fracCheck_ok {x : Int × Int} (h : frac_Check x = some 0) : -1152921504606846976 ≤ x.1 ∧ x.1 ≤ 1152921504606846976 ∧ 1 ≤ x.2 ∧ x.2 ≤ 1152921504606846976 := by
  rw [frac_Check_eq] at h
  simp only [dt, df] at h
  split at h
  · split at h
    · split at h
      · split at h
        · cases h
        · omega
      · cases h
    · cases h
  · cases h
theorem ceilDiv_def (a b : Int) : Def (num_CeilDiv a b) := by
  rw [num_CeilDiv_eq]
  refine Def.ite (fun _ => .mk _) (fun h => ?_)
  rw [dt] at h
  exact .no (by omega) (.no (by omega) (Def.ite (fun _ => .mk _) (fun _ => .mk _)))
theorem fracCeil_def (x : Int × Int) : Def (frac_Ceil x) := by
  rw [frac_Ceil_eq, frac_rounded_eq]
  refine Def.bind ?_ fun _ _ => .mk _
  exact (fracCheck_def x).bind fun r _ => Def.ite (fun _ => .mk _) (fun _ => (ceilDiv_def _ _).bind fun _ _ => .mk _)
theorem rate_def (r : Int × Int × Int × Int) : Def (scale_CheckRate r) := by
  rw [scale_CheckRate_eq]
  refine (fracCheck_def _).bind fun e _ => ?_
  repeat' (refine Def.ite (fun _ => ?_) (fun _ => ?_))
  all_goals first | exact .mk _ | exact (fracCeil_def _).bind fun r _ => Def.ite (fun _ => .mk _) (fun _ => .mk _)
theorem rate_ok {r : Int × Int × Int × Int} (h : scale_CheckRate r = some 0) : frac_Check r.2.2 = some 0 ∧ 1 ≤ r.2.2.1 ∧ -17592186044416 ≤ r.1 ∧ r.1 ≤ 17592186044416 ∧ 0 ≤ r.2.1 ∧ r.2.1 < 4294967296 := by
  rw [scale_CheckRate_eq] at h
  obtain ⟨e, he⟩ := fracCheck_def r.2.2
  rw [he, bind_some_] at h
  simp only [dt, df, ne_t] at h
  split at h
  case isFalse => cases h
  split at h
  case isFalse => cases h
  split at h
  case isFalse => cases h
  split at h
  · cases h
  split at h
  · rename_i q
    cases h
    exact absurd rfl q
  rename_i q
  have : e = 0 := Classical.byContradiction q
  subst this
  split at h
  case isFalse => cases h
  exact ⟨he, by omega, by omega, by omega, by omega, by omega⟩
/-- The whole product. -/
theorem mul64 {x y : Int} (hx0 : 0 ≤ x) (hx : x < 18446744073709551616) (hy0 : 0 ≤ y) (hy : y < 18446744073709551616) : bits_Mul64 x y = some (x * y / 18446744073709551616, x * y % 18446744073709551616) := by
  rw [bits_Mul64_eq]
  simp only [and32, Int.fdiv_eq_ediv_of_nonneg _ (show (0 : Int) ≤ 4294967296 by omega)]
  have ea : x = 4294967296 * (x / 4294967296) + x % 4294967296 := (Int.mul_ediv_add_emod x 4294967296).symm
  have eb : y = 4294967296 * (y / 4294967296) + y % 4294967296 := (Int.mul_ediv_add_emod y 4294967296).symm
  have a0 : 0 ≤ x / 4294967296 := by omega
  have a1 : x / 4294967296 ≤ 4294967295 := by omega
  have b0 : 0 ≤ y / 4294967296 := by omega
  have b1 : y / 4294967296 ≤ 4294967295 := by omega
  have c0 : 0 ≤ x % 4294967296 := by omega
  have c1 : x % 4294967296 ≤ 4294967295 := by omega
  have d0 : 0 ≤ y % 4294967296 := by omega
  have d1 : y % 4294967296 ≤ 4294967295 := by omega
  generalize x / 4294967296 = X at *
  generalize y / 4294967296 = Y at *
  generalize x % 4294967296 = U at *
  generalize y % 4294967296 = V at *
  have up : ∀ {p q : Int}, 0 ≤ p → p ≤ 4294967295 → 0 ≤ q → q ≤ 4294967295 → 0 ≤ p * q ∧ p * q ≤ 18446744065119617025 := fun {p q} h1 h2 h3 h4 => ⟨Int.mul_nonneg h1 h3, by have := Int.mul_le_mul h2 h4 h3 (by omega : (0 : Int) ≤ 4294967295); omega⟩
  have p1 := up a0 a1 b0 b1
  have p2 := up a0 a1 d0 d1
  have p3 := up c0 c1 d0 d1
  have p4 := up c0 c1 b0 b1
  have exy : x * y = 18446744073709551616 * (X * Y) + 4294967296 * (X * V) + 4294967296 * (U * Y) + U * V := by
    rw [ea, eb]
    simp only [Int.add_mul, Int.mul_add, Int.mul_assoc, Int.mul_left_comm X 4294967296 Y, Int.mul_left_comm U 4294967296 Y, Int.mul_left_comm X 4294967296 V]
    omega
  rw [wu_in c0 (by omega), wu_in d0 (by omega)]
  rw [exy]
  generalize X * Y = P1 at *
  generalize X * V = P2 at *
  generalize U * V = P3 at *
  generalize U * Y = P4 at *
  simp only [wu]
  congr 1
  refine Prod.ext ?_ ?_ <;> simp only <;> omega
theorem neg_def (w : Int × Int) : Def (num_Wide_Neg w) := by
  rw [num_Wide_Neg_eq]
  refine .yes ?_ (.mk _)
  have := wu_pos (bitop .xor .u64 18446744073709551615 w.2)
  omega
theorem mul64_def (x y : Int) : Def (bits_Mul64 x y) := by
  rw [bits_Mul64_eq]
  exact .mk _
theorem product_def (a b : Int) : Def (num_Product a b) := by
  rw [num_Product_eq]
  exact (size_def _).bind fun _ _ => (size_def _).bind fun _ _ => (mul64_def _ _).bind fun _ _ => Def.ite (fun _ => (neg_def _).bind fun _ _ => .mk _) (fun _ => .mk _)
theorem product_in {a b : Int} (ha : 0 ≤ a) (ha1 : a < 9223372036854775808) (hb : 0 ≤ b) (hb1 : b < 9223372036854775808) : num_Product a b = some (a * b / 18446744073709551616, a * b % 18446744073709551616) := by
  rw [num_Product_eq, size_in ha (by omega), size_in hb (by omega), bind_some_, bind_some_, mul64 ha (by omega) hb (by omega), bind_some_, if_neg]
  · have h0 : 0 ≤ a * b := Int.mul_nonneg ha hb
    have h1 : a * b < 85070591730234615865843651857942052864 := by
      have := Int.mul_le_mul (show a ≤ 9223372036854775807 by omega) (show b ≤ 9223372036854775807 by omega) hb (by omega : (0 : Int) ≤ 9223372036854775807)
      omega
    simp only
    rw [wi (by omega) (by omega)]
  · have e1 : decide (a < 0) = false := by simp; omega
    have e2 : decide (b < 0) = false := by simp; omega
    rw [e1, e2]
    decide
theorem len_tab : ∀ k : Nat, k < 256 → k ≠ 0 → ∃ n : Nat, ((bytesOf (ByteArray.mk #[0, 1, 2, 2, 3, 3, 3, 3, 4, 4, 4, 4, 4, 4, 4, 4, 5, 5, 5, 5, 5, 5, 5, 5, 5, 5, 5, 5, 5, 5, 5, 5, 6, 6, 6, 6, 6, 6, 6, 6, 6, 6, 6, 6, 6, 6, 6, 6, 6, 6, 6, 6, 6, 6, 6, 6, 6, 6, 6, 6, 6, 6, 6, 6, 7, 7, 7, 7, 7, 7, 7, 7, 7, 7, 7, 7, 7, 7, 7, 7, 7, 7, 7, 7, 7, 7, 7, 7, 7, 7, 7, 7, 7, 7, 7, 7, 7, 7, 7, 7, 7, 7, 7, 7, 7, 7, 7, 7, 7, 7, 7, 7, 7, 7, 7, 7, 7, 7, 7, 7, 7, 7, 7, 7, 7, 7, 7, 7, 8, 8, 8, 8, 8, 8, 8, 8, 8, 8, 8, 8, 8, 8, 8, 8, 8, 8, 8, 8, 8, 8, 8, 8, 8, 8, 8, 8, 8, 8, 8, 8, 8, 8, 8, 8, 8, 8, 8, 8, 8, 8, 8, 8, 8, 8, 8, 8, 8, 8, 8, 8, 8, 8, 8, 8, 8, 8, 8, 8, 8, 8, 8, 8, 8, 8, 8, 8, 8, 8, 8, 8, 8, 8, 8, 8, 8, 8, 8, 8, 8, 8, 8, 8, 8, 8, 8, 8, 8, 8, 8, 8, 8, 8, 8, 8, 8, 8, 8, 8, 8, 8, 8, 8, 8, 8, 8, 8, 8, 8, 8, 8, 8, 8, 8, 8, 8, 8, 8, 8, 8, 8, 8, 8, 8, 8, 8, 8])).getD k 0) = ((n + 1 : Nat) : Int) ∧ n < 8 ∧ 2 ^ n ≤ k ∧ k < 2 ^ (n + 1) := by
  have h : ∀ k : Fin 256, k.val = 0 ∨ (let t := ((bytesOf (ByteArray.mk #[0, 1, 2, 2, 3, 3, 3, 3, 4, 4, 4, 4, 4, 4, 4, 4, 5, 5, 5, 5, 5, 5, 5, 5, 5, 5, 5, 5, 5, 5, 5, 5, 6, 6, 6, 6, 6, 6, 6, 6, 6, 6, 6, 6, 6, 6, 6, 6, 6, 6, 6, 6, 6, 6, 6, 6, 6, 6, 6, 6, 6, 6, 6, 6, 7, 7, 7, 7, 7, 7, 7, 7, 7, 7, 7, 7, 7, 7, 7, 7, 7, 7, 7, 7, 7, 7, 7, 7, 7, 7, 7, 7, 7, 7, 7, 7, 7, 7, 7, 7, 7, 7, 7, 7, 7, 7, 7, 7, 7, 7, 7, 7, 7, 7, 7, 7, 7, 7, 7, 7, 7, 7, 7, 7, 7, 7, 7, 7, 8, 8, 8, 8, 8, 8, 8, 8, 8, 8, 8, 8, 8, 8, 8, 8, 8, 8, 8, 8, 8, 8, 8, 8, 8, 8, 8, 8, 8, 8, 8, 8, 8, 8, 8, 8, 8, 8, 8, 8, 8, 8, 8, 8, 8, 8, 8, 8, 8, 8, 8, 8, 8, 8, 8, 8, 8, 8, 8, 8, 8, 8, 8, 8, 8, 8, 8, 8, 8, 8, 8, 8, 8, 8, 8, 8, 8, 8, 8, 8, 8, 8, 8, 8, 8, 8, 8, 8, 8, 8, 8, 8, 8, 8, 8, 8, 8, 8, 8, 8, 8, 8, 8, 8, 8, 8, 8, 8, 8, 8, 8, 8, 8, 8, 8, 8, 8, 8, 8, 8, 8, 8, 8, 8, 8, 8, 8, 8])).getD k.val 0); t = ((t.toNat - 1 + 1 : Nat) : Int) ∧ t.toNat - 1 < 8 ∧ 2 ^ (t.toNat - 1) ≤ k.val ∧ k.val < 2 ^ (t.toNat - 1 + 1)) := by decide +kernel
  intro k hk h0
  rcases h ⟨k, hk⟩ with q | q
  · exact absurd q h0
  · exact ⟨_, q⟩

end Go.Proofs.YtionphbdphbpnaaGreat.Pure
