/- Numbers, angles: defined. -/
import Derived.Test.YtfnflhfdpbekeaaGreatDoorEA0
import Derived.Test.YtfnflhfdpbekeaaGreatDoorEA1
import Derived.Test.YtfnflhfdpbekeaaGreatDoorEA2
import Derived.Test.YtfnflhfdpbekeaaGreatDoorPl
namespace Go.Proofs.YtfnflhfdpbekeaaGreatDoor.Pure
set_option linter.unusedVariables false
set_option linter.unusedSimpArgs false
open Go Go.RowKit Go.Proofs.YtfnflhfdpbekeaaGreatDoor.Pv Go.Proofs.YtfnflhfdpbekeaaGreatDoor.Pl Go.Proofs.YtfnflhfdpbekeaaGreatDoor.EA

/-! Whole numbers: what is defined, for every argument. -/
def Def {α : Type} (o : Option α) : Prop := ∃ r, o = some r
theorem Def.mk {α : Type} (a : α) : Def (some a) := ⟨a, rfl⟩
theorem Def.bind {α β : Type} {x : Option α} {f : α → Option β} (h : Def x) (k : ∀ r, x = some r → Def (f r)) : Def (x.bind f) := by
  obtain ⟨r, h⟩ := h
  rw [h]
  exact k r h
theorem Def.ite {α : Type} {c : Prop} [Decidable c] {a b : Option α} (h1 : c → Def a) (h2 : ¬ c → Def b) : Def (if c then a else b) := by
  by_cases h : c
  · rw [if_pos h]; exact h1 h
  · rw [if_neg h]; exact h2 h
theorem Def.no {α : Type} {c : Prop} [Decidable c] {b : Option α} (h1 : ¬ c) (h2 : Def b) : Def (if c then none else b) := by rw [if_neg h1]; exact h2
theorem Def.yes {α : Type} {c : Prop} [Decidable c] {a : Option α} (h1 : c) (h2 : Def a) : Def (if c then a else none) := by rw [if_pos h1]; exact h2
theorem wu (x : Int) : IntKind.u64.wrap x = x % 18446744073709551616 := by
  simp [IntKind.wrap, IntKind.bits, IntKind.signed]
theorem wu_in {x : Int} (h0 : 0 ≤ x) (h1 : x < 18446744073709551616) : IntKind.u64.wrap x = x := IntWalk.u64_in x ⟨h0, by omega⟩
theorem wu_pos (x : Int) : 0 ≤ IntKind.u64.wrap x ∧ IntKind.u64.wrap x < 18446744073709551616 := by rw [wu]; omega
theorem wi_pos (x : Int) : -9223372036854775808 ≤ IntKind.i64.wrap x ∧ IntKind.i64.wrap x ≤ 9223372036854775807 := by rw [IntKind.wrap_i64]; omega
theorem and32 (x : Int) : bitop .and .u64 x 4294967295 = x % 4294967296 := by
  show ((BitVec.ofInt 64 x &&& BitVec.ofInt 64 4294967295).toNat : Int) = _
  rw [BitVec.toNat_and, BitVec.toNat_ofInt, BitVec.toNat_ofInt]
  have e : ((4294967295 : Int) % ((2 ^ 64 : Nat) : Int)).toNat = 2 ^ 32 - 1 := by decide
  rw [e, Nat.and_two_pow_sub_one_eq_mod]
  omega
theorem or_lt {x y : Int} : 0 ≤ bitop .or .u64 x y ∧ bitop .or .u64 x y < 18446744073709551616 := by
  unfold bitop
  have := (BitVec.ofInt IntKind.u64.bits x ||| BitVec.ofInt IntKind.u64.bits y).isLt
  simp only [IntKind.bits] at this ⊢
  omega
theorem size_def (a : Int) : Def (num_size a) := by
  rw [num_size_eq]
  exact Def.ite (fun _ => .mk _) (fun _ => .mk _)
theorem size_pos {a r : Int} (h : num_size a = some r) : 0 ≤ r ∧ r < 18446744073709551616 := by
  rw [num_size_eq] at h
  split at h <;> cases h <;> exact wu_pos _
theorem size_in {a : Int} (h0 : 0 ≤ a) (h1 : a < 18446744073709551616) : num_size a = some a := by
  rw [num_size_eq, if_neg (by rw [dt]; omega), wu_in h0 h1]
theorem ceilDiv_def (a b : Int) : Def (num_CeilDiv a b) := by
  rw [num_CeilDiv_eq]
  refine Def.ite (fun _ => .mk _) (fun h => ?_)
  rw [dt] at h
  exact .no (by omega) (.no (by omega) (Def.ite (fun _ => .mk _) (fun _ => .mk _)))
/-- The whole product. -/
theorem mul64 {x y : Int} (hx0 : 0 ≤ x) (hx : x < 18446744073709551616) (hy0 : 0 ≤ y) (hy : y < 18446744073709551616) : bits_Mul64 x y = some (x * y / 18446744073709551616, x * y % 18446744073709551616) := by
  rw [bits_Mul64_eq]
  simp only [and32, Int.fdiv_eq_ediv_of_nonneg _ (show (0 : Int) ≤ 4294967296 by omega)]
  have ea : x = 4294967296 * (x / 4294967296) + x % 4294967296 := (Int.mul_ediv_add_emod x 4294967296).symm
  have eb : y = 4294967296 * (y / 4294967296) + y % 4294967296 := (Int.mul_ediv_add_emod y 4294967296).symm
  have a0 : 0 ≤ x / 4294967296 := by omega
  have a1 : x / 4294967296 ≤ 4294967295 := by omega
  have b0 : 0 ≤ y / 4294967296 := by omega
  have b1 : y / 4294967296 ≤ 4294967295 := by omega
  have c0 : 0 ≤ x % 4294967296 := by omega
  have c1 : x % 4294967296 ≤ 4294967295 := by omega
  have d0 : 0 ≤ y % 4294967296 := by omega
  have d1 : y % 4294967296 ≤ 4294967295 := by omega
  generalize x / 4294967296 = X at *
  generalize y / 4294967296 = Y at *
  generalize x % 4294967296 = U at *
  generalize y % 4294967296 = V at *
  have up : ∀ {p q : Int}, 0 ≤ p → p ≤ 4294967295 → 0 ≤ q → q ≤ 4294967295 → 0 ≤ p * q ∧ p * q ≤ 18446744065119617025 := fun {p q} h1 h2 h3 h4 => ⟨Int.mul_nonneg h1 h3, by have := Int.mul_le_mul h2 h4 h3 (by omega : (0 : Int) ≤ 4294967295); omega⟩
  have p1 := up a0 a1 b0 b1
  have p2 := up a0 a1 d0 d1
  have p3 := up c0 c1 d0 d1
  have p4 := up c0 c1 b0 b1
  have exy : x * y = 18446744073709551616 * (X * Y) + 4294967296 * (X * V) + 4294967296 * (U * Y) + U * V := by
    rw [ea, eb]
    simp only [Int.add_mul, Int.mul_add, Int.mul_assoc, Int.mul_left_comm X 4294967296 Y, Int.mul_left_comm U 4294967296 Y, Int.mul_left_comm X 4294967296 V]
    omega
  rw [wu_in c0 (by omega), wu_in d0 (by omega)]
  rw [exy]
  generalize X * Y = P1 at *
  generalize X * V = P2 at *
  generalize U * V = P3 at *
  generalize U * Y = P4 at *
  simp only [wu]
  congr 1
  refine Prod.ext ?_ ?_ <;> simp only <;> omega
theorem neg_def (w : Int × Int) : Def (num_Wide_Neg w) := by
  rw [num_Wide_Neg_eq]
  refine .yes ?_ (.mk _)
  have := wu_pos (bitop .xor .u64 18446744073709551615 w.2)
  omega
theorem mul64_def (x y : Int) : Def (bits_Mul64 x y) := by
  rw [bits_Mul64_eq]
  exact .mk _
theorem product_def (a b : Int) : Def (num_Product a b) := by
  rw [num_Product_eq]
  exact (size_def _).bind fun _ _ => (size_def _).bind fun _ _ => (mul64_def _ _).bind fun _ _ => Def.ite (fun _ => (neg_def _).bind fun _ _ => .mk _) (fun _ => .mk _)
theorem product_in {a b : Int} (ha : 0 ≤ a) (ha1 : a < 9223372036854775808) (hb : 0 ≤ b) (hb1 : b < 9223372036854775808) : num_Product a b = some (a * b / 18446744073709551616, a * b % 18446744073709551616) := by
  rw [num_Product_eq, size_in ha (by omega), size_in hb (by omega), bind_some_, bind_some_, mul64 ha (by omega) hb (by omega), bind_some_, if_neg]
  · have h0 : 0 ≤ a * b := Int.mul_nonneg ha hb
    have h1 : a * b < 85070591730234615865843651857942052864 := by
      have := Int.mul_le_mul (show a ≤ 9223372036854775807 by omega) (show b ≤ 9223372036854775807 by omega) hb (by omega : (0 : Int) ≤ 9223372036854775807)
      omega
    simp only
    rw [wi (by omega) (by omega)]
  · have e1 : decide (a < 0) = false := by simp; omega
    have e2 : decide (b < 0) = false := by simp; omega
    rw [e1, e2]
    decide
theorem len_tab : ∀ k : Nat, k < 256 → k ≠ 0 → ∃ n : Nat, ((bytesOf (ByteArray.mk #[0, 1, 2, 2, 3, 3, 3, 3, 4, 4, 4, 4, 4, 4, 4, 4, 5, 5, 5, 5, 5, 5, 5, 5, 5, 5, 5, 5, 5, 5, 5, 5, 6, 6, 6, 6, 6, 6, 6, 6, 6, 6, 6, 6, 6, 6, 6, 6, 6, 6, 6, 6, 6, 6, 6, 6, 6, 6, 6, 6, 6, 6, 6, 6, 7, 7, 7, 7, 7, 7, 7, 7, 7, 7, 7, 7, 7, 7, 7, 7, 7, 7, 7, 7, 7, 7, 7, 7, 7, 7, 7, 7, 7, 7, 7, 7, 7, 7, 7, 7, 7, 7, 7, 7, 7, 7, 7, 7, 7, 7, 7, 7, 7, 7, 7, 7, 7, 7, 7, 7, 7, 7, 7, 7, 7, 7, 7, 7, 8, 8, 8, 8, 8, 8, 8, 8, 8, 8, 8, 8, 8, 8, 8, 8, 8, 8, 8, 8, 8, 8, 8, 8, 8, 8, 8, 8, 8, 8, 8, 8, 8, 8, 8, 8, 8, 8, 8, 8, 8, 8, 8, 8, 8, 8, 8, 8, 8, 8, 8, 8, 8, 8, 8, 8, 8, 8, 8, 8, 8, 8, 8, 8, 8, 8, 8, 8, 8, 8, 8, 8, 8, 8, 8, 8, 8, 8, 8, 8, 8, 8, 8, 8, 8, 8, 8, 8, 8, 8, 8, 8, 8, 8, 8, 8, 8, 8, 8, 8, 8, 8, 8, 8, 8, 8, 8, 8, 8, 8, 8, 8, 8, 8, 8, 8, 8, 8, 8, 8, 8, 8, 8, 8, 8, 8, 8, 8])).getD k 0) = ((n + 1 : Nat) : Int) ∧ n < 8 ∧ 2 ^ n ≤ k ∧ k < 2 ^ (n + 1) := by
  have h : ∀ k : Fin 256, k.val = 0 ∨ (let t := ((bytesOf (ByteArray.mk #[0, 1, 2, 2, 3, 3, 3, 3, 4, 4, 4, 4, 4, 4, 4, 4, 5, 5, 5, 5, 5, 5, 5, 5, 5, 5, 5, 5, 5, 5, 5, 5, 6, 6, 6, 6, 6, 6, 6, 6, 6, 6, 6, 6, 6, 6, 6, 6, 6, 6, 6, 6, 6, 6, 6, 6, 6, 6, 6, 6, 6, 6, 6, 6, 7, 7, 7, 7, 7, 7, 7, 7, 7, 7, 7, 7, 7, 7, 7, 7, 7, 7, 7, 7, 7, 7, 7, 7, 7, 7, 7, 7, 7, 7, 7, 7, 7, 7, 7, 7, 7, 7, 7, 7, 7, 7, 7, 7, 7, 7, 7, 7, 7, 7, 7, 7, 7, 7, 7, 7, 7, 7, 7, 7, 7, 7, 7, 7, 8, 8, 8, 8, 8, 8, 8, 8, 8, 8, 8, 8, 8, 8, 8, 8, 8, 8, 8, 8, 8, 8, 8, 8, 8, 8, 8, 8, 8, 8, 8, 8, 8, 8, 8, 8, 8, 8, 8, 8, 8, 8, 8, 8, 8, 8, 8, 8, 8, 8, 8, 8, 8, 8, 8, 8, 8, 8, 8, 8, 8, 8, 8, 8, 8, 8, 8, 8, 8, 8, 8, 8, 8, 8, 8, 8, 8, 8, 8, 8, 8, 8, 8, 8, 8, 8, 8, 8, 8, 8, 8, 8, 8, 8, 8, 8, 8, 8, 8, 8, 8, 8, 8, 8, 8, 8, 8, 8, 8, 8, 8, 8, 8, 8, 8, 8, 8, 8, 8, 8, 8, 8, 8, 8, 8, 8, 8, 8])).getD k.val 0); t = ((t.toNat - 1 + 1 : Nat) : Int) ∧ t.toNat - 1 < 8 ∧ 2 ^ (t.toNat - 1) ≤ k.val ∧ k.val < 2 ^ (t.toNat - 1 + 1)) := by decide +kernel
  intro k hk h0
  rcases h ⟨k, hk⟩ with q | q
  · exact absurd q h0
  · exact ⟨_, q⟩
/-! Long division is defined. -/
theorem two_pow_le {k n : Nat} {x : Int} (h0 : (2 : Int) ^ n ≤ x) (hk : k ≤ n) : (2 : Int) ^ k ≤ x := by
  have : (2 : Nat) ^ k ≤ 2 ^ n := Nat.pow_le_pow_right (by omega) hk
  have h : (2 : Int) ^ k ≤ 2 ^ n := by exact_mod_cast this
  omega
theorem len10 {x : Int} {n2 : Int} (h0 : 1 ≤ x) (h1 : x < 256) (hn0 : 0 ≤ n2) (hn1 : n2 ≤ 56) : ∃ m : Nat, bits_Len64.p10 x n2 = some (n2 + (m + 1 : Nat)) ∧ m < 8 ∧ 2 ^ m ≤ x.toNat ∧ x.toNat < 2 ^ (m + 1) := by
  obtain ⟨m, e, h2, h3, h4⟩ := len_tab x.toNat (by omega) (by omega)
  rw [bits_Len64.p10_eq]
  rw [IntWalk.u8_in x ⟨by omega, by omega⟩, if_pos (by omega), if_pos (Int.lt_of_lt_of_le h1 (by decide +kernel)), e]
  refine ⟨m, ?_, h2, h3, h4⟩
  rw [wi (x := ((m + 1 : Nat) : Int)) (by omega) (by omega), wi (by omega) (by omega)]
theorem len_half {x : Int} {k m : Nat} (h0 : 0 ≤ x) (h1 : 2 ^ m ≤ (x / (2 : Int) ^ k).toNat) (h2 : (x / (2 : Int) ^ k).toNat < 2 ^ (m + 1)) : 2 ^ (m + k) ≤ x.toNat ∧ x.toNat < 2 ^ (m + k + 1) := by
  obtain ⟨X, rfl⟩ := Int.eq_ofNat_of_zero_le h0
  have e : ((X : Int) / (2 : Int) ^ k).toNat = X / 2 ^ k := by
    have : ((2 : Int) ^ k) = ((2 ^ k : Nat) : Int) := by simp
    rw [this, ← Int.natCast_ediv, Int.toNat_natCast]
  rw [e] at h1 h2
  rw [Int.toNat_natCast, show m + k + 1 = m + 1 + k by omega, Nat.pow_add, Nat.pow_add]
  have hp : 0 < 2 ^ k := Nat.two_pow_pos k
  exact ⟨(Nat.le_div_iff_mul_le hp).1 h1, (Nat.div_lt_iff_lt_mul hp).1 h2⟩
/-- The number of bits. -/
theorem len64 {y : Int} (h0 : 1 ≤ y) (h1 : y < 18446744073709551616) : ∃ m : Nat, bits_Len64 y = some ((m + 1 : Nat) : Int) ∧ m < 64 ∧ 2 ^ m ≤ y.toNat ∧ y.toNat < 2 ^ (m + 1) := by
  have f : ∀ (a : Int) (b : Int), 0 ≤ b → Int.fdiv a b = a / b := fun a b h => Int.fdiv_eq_ediv_of_nonneg a h
  have s7 : ∀ (x n : Int), 1 ≤ x → x < 65536 → 0 ≤ n → n ≤ 48 → ∃ m : Nat, bits_Len64.p7 x n = some (n + (m + 1 : Nat)) ∧ m < 16 ∧ 2 ^ m ≤ x.toNat ∧ x.toNat < 2 ^ (m + 1) := by
    intro x n h0 h1 hn0 hn1
    rw [bits_Len64.p7_eq, f _ _ (by omega)]
    by_cases h : x ≥ 256
    · rw [if_pos (by rw [dt]; exact h), wi (by omega) (by omega)]
      obtain ⟨m, e, q1, q2, q3⟩ := len10 (x := x / 256) (n2 := n + 8) (by omega) (by omega) (by omega) (by omega)
      have := len_half (x := x) (k := 8) (m := m) (by omega) q2 q3
      exact ⟨m + 8, by rw [e]; congr 1; omega, by omega, this.1, this.2⟩
    · rw [if_neg (by rw [dt]; exact h)]
      obtain ⟨m, e, q1, q2, q3⟩ := len10 (x := x) (n2 := n) (by omega) (by omega) (by omega) (by omega)
      exact ⟨m, e, by omega, q2, q3⟩
  have s4 : ∀ (x n : Int), 1 ≤ x → x < 4294967296 → 0 ≤ n → n ≤ 32 → ∃ m : Nat, bits_Len64.p4 x n = some (n + (m + 1 : Nat)) ∧ m < 32 ∧ 2 ^ m ≤ x.toNat ∧ x.toNat < 2 ^ (m + 1) := by
    intro x n h0 h1 hn0 hn1
    rw [bits_Len64.p4_eq, f _ _ (by omega)]
    by_cases h : x ≥ 65536
    · rw [if_pos (by rw [dt]; exact h), wi (by omega) (by omega)]
      obtain ⟨m, e, q1, q2, q3⟩ := s7 (x / 65536) (n + 16) (by omega) (by omega) (by omega) (by omega)
      have := len_half (x := x) (k := 16) (m := m) (by omega) q2 q3
      exact ⟨m + 16, by rw [e]; congr 1; omega, by omega, this.1, this.2⟩
    · rw [if_neg (by rw [dt]; exact h)]
      obtain ⟨m, e, q1, q2, q3⟩ := s7 x n (by omega) (by omega) (by omega) (by omega)
      exact ⟨m, e, by omega, q2, q3⟩
  rw [bits_Len64_eq, f _ _ (by omega)]
  by_cases h : y ≥ 4294967296
  · rw [if_pos (by rw [dt]; exact h)]
    obtain ⟨m, e, q1, q2, q3⟩ := s4 (y / 4294967296) 32 (by omega) (by omega) (by omega) (by omega)
    have := len_half (x := y) (k := 32) (m := m) (by omega) q2 q3
    exact ⟨m + 32, by rw [e]; congr 1; omega, by omega, this.1, this.2⟩
  · rw [if_neg (by rw [dt]; exact h)]
    obtain ⟨m, e, q1, q2, q3⟩ := s4 y 0 (by omega) (by omega) (by omega) (by omega)
    exact ⟨m, by rw [e]; congr 1; omega, by omega, q2, q3⟩
section
variable {y2 s8 yn1 yn0 un0 un1 un32 q r un21 q0 : Int}
theorem p25_hi (hs : 0 ≤ s8) (h : 2147483648 ≤ yn1) (h' : yn1 < 4294967296) (hr0 : 2147483648 ≤ r) (hr1 : r < 4294967296) : Def (bits_Div64.p25 y2 s8 yn1 yn0 un0 q r un21 q0) := by
  rw [bits_Div64.p25_eq, wu_in (by omega) (by omega), if_pos (by rw [dt]; omega)]
  exact .no (by omega) (.mk _)
theorem p24_of (hs : 0 ≤ s8) (h : Def (bits_Div64.p25 y2 s8 yn1 yn0 un0 q r un21 q0)) : Def (bits_Div64.p24 y2 s8 yn1 yn0 un0 q r un21 q0) := by
  rw [bits_Div64.p24_eq]
  refine Def.ite (fun _ => Def.ite (fun _ => h) (fun _ => ?_)) (fun _ => h)
  exact .no (by omega) (.mk _)
theorem p25_mid (hs : 0 ≤ s8) (h : 2147483648 ≤ yn1) (h' : yn1 < 4294967296) (hr0 : 0 ≤ r) (hr1 : r < 4294967296) : Def (bits_Div64.p25 y2 s8 yn1 yn0 un0 q r un21 q0) := by
  rw [bits_Div64.p25_eq]
  refine Def.ite (fun _ => .no (by omega) (.mk _)) (fun hn => ?_)
  rw [dt, wu_in (by omega) (by omega)] at hn
  rw [wu_in (by omega) (by omega)]
  exact p24_of hs (p25_hi hs h h' (by omega) (by omega))
theorem p25_def (hs : 0 ≤ s8) (h : 2147483648 ≤ yn1) (h' : yn1 < 4294967296) : Def (bits_Div64.p25 y2 s8 yn1 yn0 un0 q r un21 q0) := by
  rw [bits_Div64.p25_eq]
  refine Def.ite (fun _ => .no (by omega) (.mk _)) (fun hn => ?_)
  rw [dt] at hn
  have := wu_pos (r + yn1)
  exact p24_of hs (p25_mid hs h h' (by omega) (by omega))
theorem p24_def (hs : 0 ≤ s8) (h : 2147483648 ≤ yn1) (h' : yn1 < 4294967296) : Def (bits_Div64.p24 y2 s8 yn1 yn0 un0 q r un21 q0) := p24_of hs (p25_def hs h h')
theorem p18_hi (hs : 0 ≤ s8) (h : 2147483648 ≤ yn1) (h' : yn1 < 4294967296) (hr0 : 2147483648 ≤ r) (hr1 : r < 4294967296) : Def (bits_Div64.p18 y2 s8 yn1 yn0 un32 un1 un0 q r) := by
  rw [bits_Div64.p18_eq, wu_in (x := r + yn1) (by omega) (by omega), if_pos (by rw [dt]; omega)]
  exact .no (by omega) (p24_def hs h h')
theorem p17_of (hs : 0 ≤ s8) (h : 2147483648 ≤ yn1) (h' : yn1 < 4294967296) (k : Def (bits_Div64.p18 y2 s8 yn1 yn0 un32 un1 un0 q r)) : Def (bits_Div64.p17 y2 s8 yn1 yn0 un32 un1 un0 q r) := by
  rw [bits_Div64.p17_eq]
  refine Def.ite (fun _ => Def.ite (fun _ => k) (fun _ => ?_)) (fun _ => k)
  exact .no (by omega) (p24_def hs h h')
theorem p18_mid (hs : 0 ≤ s8) (h : 2147483648 ≤ yn1) (h' : yn1 < 4294967296) (hr0 : 0 ≤ r) (hr1 : r < 4294967296) : Def (bits_Div64.p18 y2 s8 yn1 yn0 un32 un1 un0 q r) := by
  rw [bits_Div64.p18_eq]
  refine Def.ite (fun _ => .no (by omega) (p24_def hs h h')) (fun hn => ?_)
  rw [dt, wu_in (by omega) (by omega)] at hn
  rw [wu_in (x := r + yn1) (by omega) (by omega)]
  exact p17_of hs h h' (p18_hi hs h h' (by omega) (by omega))
theorem p18_def (hs : 0 ≤ s8) (h : 2147483648 ≤ yn1) (h' : yn1 < 4294967296) : Def (bits_Div64.p18 y2 s8 yn1 yn0 un32 un1 un0 q r) := by
  rw [bits_Div64.p18_eq]
  refine Def.ite (fun _ => .no (by omega) (p24_def hs h h')) (fun hn => ?_)
  rw [dt] at hn
  have := wu_pos (r + yn1)
  exact p17_of hs h h' (p18_mid hs h h' (by omega) (by omega))
theorem p17_def (hs : 0 ≤ s8) (h : 2147483648 ≤ yn1) (h' : yn1 < 4294967296) : Def (bits_Div64.p17 y2 s8 yn1 yn0 un32 un1 un0 q r) := p17_of hs h h' (p18_def hs h h')
end
theorem div64_def {hi lo y : Int} (h0 : 0 < y) (h1 : y < 18446744073709551616) (h2 : hi < y) : Def (bits_Div64 hi lo y) := by
  rw [bits_Div64_eq, if_neg (by rw [eq_t]; omega), if_neg (by rw [dt]; omega)]
  refine Def.ite (fun _ => .no (by omega) (.no (by omega) (.mk _))) (fun _ => ?_)
  obtain ⟨m, e, hm, q1, q2⟩ := len64 (y := y) (by omega) h1
  rw [bits_LeadingZeros64_eq, e, bind_some_, bind_some_]
  have es : IntKind.u64.wrap (IntKind.i64.wrap (64 - ((m + 1 : Nat) : Int))) = ((63 - m : Nat) : Int) := by
    rw [wi (by omega) (by omega), wu_in (by omega) (by omega)]
    omega
  have es2 : IntKind.u64.wrap (64 - ((63 - m : Nat) : Int)) = ((m + 1 : Nat) : Int) := by
    rw [wu_in (by omega) (by omega)]
    omega
  rw [es, es2]
  have en : min (((63 - m : Nat) : Int)).toNat 64 = 63 - m := by
    rw [Int.toNat_natCast]
    omega
  rw [en]
  have hy : 9223372036854775808 ≤ y * 2 ^ (63 - m) ∧ y * 2 ^ (63 - m) < 18446744073709551616 := by
    obtain ⟨Y, rfl⟩ := Int.eq_ofNat_of_zero_le (show 0 ≤ y by omega)
    rw [Int.toNat_natCast] at q1 q2
    have ep : ((2 : Int) ^ (63 - m)) = ((2 ^ (63 - m) : Nat) : Int) := by simp
    rw [ep, ← Int.natCast_mul]
    have a1 : 2 ^ m * 2 ^ (63 - m) ≤ Y * 2 ^ (63 - m) := Nat.mul_le_mul_right _ q1
    have a2 : Y * 2 ^ (63 - m) < 2 ^ (m + 1) * 2 ^ (63 - m) := Nat.mul_lt_mul_of_pos_right q2 (Nat.two_pow_pos _)
    rw [← Nat.pow_add, show m + (63 - m) = 63 by omega] at a1
    rw [← Nat.pow_add, show m + 1 + (63 - m) = 64 by omega] at a2
    have b1 : (2 : Nat) ^ 63 = 9223372036854775808 := by decide
    have b2 : (2 : Nat) ^ 64 = 18446744073709551616 := by decide
    omega
  rw [wu_in (x := y * 2 ^ (63 - m)) (by omega) hy.2]
  rw [Int.fdiv_eq_ediv_of_nonneg (y * 2 ^ (63 - m)) (show (0 : Int) ≤ 4294967296 by omega)]
  generalize y * 2 ^ (63 - m) = Z at hy ⊢
  refine .no (by omega) (.no (by omega) (.no (by omega) (.no (by omega) (.no (by omega) ?_))))
  exact p17_def (by omega) (by omega) (by omega)
theorem wideDiv_def (w : Int × Int) (d : Int) (hd : d < 9223372036854775808) : Def (num_Wide_Div w d) := by
  have p14 : ∀ (q r : Int) (mo : Int) (w : Int × Int), Def (num_Wide_Div.p14 q r mo w) := by
    intro q r mo w
    rw [num_Wide_Div.p14_eq]
    repeat' (refine Def.ite (fun _ => ?_) (fun _ => ?_))
    all_goals exact .mk _
  have p6 : ∀ (w m : Int × Int), 1 ≤ d → Def (num_Wide_Div.p6 d w m) := by
    intro w m h
    rw [num_Wide_Div.p6_eq]
    refine Def.ite (fun _ => .mk _) (fun hn => ?_)
    rw [dt] at hn
    rw [wu_in (x := d) (by omega) (by omega)] at hn ⊢
    refine (div64_def (by omega) (by omega) (by omega)).bind fun _ _ => ?_
    repeat' (refine Def.ite (fun _ => ?_) (fun _ => ?_))
    all_goals exact p14 _ _ _ _
  rw [num_Wide_Div_eq]
  refine Def.ite (fun _ => .mk _) (fun hn => ?_)
  rw [dt] at hn
  exact Def.ite (fun _ => (neg_def _).bind fun _ _ => p6 _ _ (by omega)) (fun _ => p6 _ _ (by omega))
theorem mulDiv_def (a b c : Int) (hc : c < 9223372036854775808) : Def (num_MulDiv a b c) := by
  rw [num_MulDiv_eq]
  exact (product_def a b).bind fun w _ => (wideDiv_def w c hc).bind fun _ _ => .mk _
theorem roundDiv_def (a b : Int) : Def (num_RoundDiv a b) := by
  have p6 : ∀ q r, Def (num_RoundDiv.p6 b q r) := by
    intro q r
    rw [num_RoundDiv.p6_eq]
    repeat' (refine Def.ite (fun _ => ?_) (fun _ => ?_))
    all_goals exact .mk _
  rw [num_RoundDiv_eq]
  refine Def.ite (fun _ => .mk _) (fun hn => ?_)
  rw [dt] at hn
  refine .no (by omega) (.no (by omega) ?_)
  repeat' (refine Def.ite (fun _ => ?_) (fun _ => ?_))
  all_goals first | exact .mk _ | exact p6 _ _
theorem sqrt_p6 : ∀ (n : Nat) (hi lo r bit : Int), 0 ≤ bit → bit < 2 ^ n → Def (num_SqrtMul.p6 hi lo r bit) := by
  intro n
  induction n with
  | zero =>
    intro hi lo r bit h0 h1
    rw [num_SqrtMul.p6_eq, if_neg (by rw [dt]; simp at h1; omega)]
    exact .mk _
  | succ n ih =>
    intro hi lo r bit h0 h1
    rw [num_SqrtMul.p6_eq]
    refine Def.ite (fun _ => (mul64_def _ _).bind fun _ _ => ?_) (fun _ => .mk _)
    have e : Int.fdiv bit 2 = bit / 2 := Int.fdiv_eq_ediv_of_nonneg _ (by omega)
    have h2 : bit / 2 < 2 ^ n := by
      rw [Int.pow_succ] at h1
      omega
    rw [e]
    repeat' (refine Def.ite (fun _ => ?_) (fun _ => ?_))
    all_goals exact ih _ _ _ _ (by omega) h2
theorem sqrtMul_def (a b : Int) : Def (num_SqrtMul a b) := by
  rw [num_SqrtMul_eq]
  refine Def.ite (fun _ => Def.ite (fun _ => .mk _) (fun _ => (mul64_def _ _).bind fun _ _ => ?_)) (fun _ => .mk _)
  exact sqrt_p6 63 _ _ _ _ (by omega) (by decide)
/-! Nights: the program's check is the reference's. -/
/-! Comparison of fractions. -/
theorem compare_i (x y : Int) : cmp_Compare_int64 x y = some (if x < y then -1 else if x > y then 1 else 0) := by
  rw [cmp_Compare_int64_eq, cmp_isNaN_int64_eq, cmp_isNaN_int64_eq, bind_some_, bind_some_, if_neg (by simp), if_neg (by simp)]
  simp only [dt]
  by_cases h : x < y
  · rw [if_pos h, if_pos h]
  · rw [if_neg h, if_neg h]
    by_cases h2 : x > y
    · rw [if_pos h2, if_pos h2]
    · rw [if_neg h2, if_neg h2]
theorem compare_u (x y : Int) : cmp_Compare_uint64 x y = some (if x < y then -1 else if x > y then 1 else 0) := by
  rw [cmp_Compare_uint64_eq, cmp_isNaN_uint64_eq, cmp_isNaN_uint64_eq, bind_some_, bind_some_, if_neg (by simp), if_neg (by simp)]
  simp only [dt]
  by_cases h : x < y
  · rw [if_pos h, if_pos h]
  · rw [if_neg h, if_neg h]
    by_cases h2 : x > y
    · rw [if_pos h2, if_pos h2]
    · rw [if_neg h2, if_neg h2]
theorem or_two (a b : Int) : cmp_Or_int [a, b] = some (if a ≠ 0 then a else b) := by
  rw [cmp_Or_int_eq, cmp_Or_int.p3_eq, if_pos (by simp), if_pos (by decide), if_pos (by simp)]
  show (if (a != 0) = true then some a else _) = _
  simp only [ne_t]
  by_cases h : a ≠ 0
  · rw [if_pos h, if_pos h]
  · rw [if_neg h, if_neg h, show IntKind.i64.wrap (0 + 1) = 1 from by decide +kernel, cmp_Or_int.p3_eq, if_pos (by simp), if_pos (by decide), if_pos (by simp)]
    show (if (b != 0) = true then some b else _) = _
    simp only [ne_t]
    by_cases hb : b ≠ 0
    · rw [if_pos hb]
    · rw [if_neg hb, show IntKind.i64.wrap (1 + 1) = 2 from by decide +kernel, cmp_Or_int.p3_eq, if_neg (by simp)]
      congr 1
      omega
theorem wideCmp (a b : Int) (ha : 0 ≤ a) (hb : 0 ≤ b) : num_Wide_Cmp (a / 18446744073709551616, a % 18446744073709551616) (b / 18446744073709551616, b % 18446744073709551616) = some (if a < b then -1 else if a > b then 1 else 0) := by
  rw [num_Wide_Cmp_eq, compare_i, compare_u, bind_some_, bind_some_, or_two, bind_some_]
  congr 1
  simp only
  split <;> split <;> (try split) <;> (try split) <;> (try split) <;> (try split) <;> omega
abbrev Night : Type := (Int × Int) × (Int × Int × Int × Int) × Int × Int × Int × (Int × Int × Int) × (Int × Int × Int) × Int × List Int
theorem ite_some {c : Prop} [Decidable c] {a b : Option Int} (h : (if c then a else b) = some 0) : (c ∧ a = some 0) ∨ (¬ c ∧ b = some 0) := by
  by_cases q : c
  · rw [if_pos q] at h; exact .inl ⟨q, h⟩
  · rw [if_neg q] at h; exact .inr ⟨q, h⟩
theorem ite_0 {c : Prop} [Decidable c] {a : Option Int} {k : Int} (hk : k ≠ 0) (h : (if c then a else some k) = some 0) : c ∧ a = some 0 := (ite_some h).resolve_right fun q => hk (Option.some.inj q.2)
theorem ite_1 {c : Prop} [Decidable c] {a : Option Int} {k : Int} (hk : k ≠ 0) (h : (if c then some k else a) = some 0) : ¬ c ∧ a = some 0 := (ite_some h).resolve_left fun q => hk (Option.some.inj q.2)
theorem ite_e {e : Int} {a : Option Int} (h : (if (e != 0) = true then some e else a) = some 0) : e = 0 ∧ a = some 0 := by
  rcases ite_some h with ⟨q1, q2⟩ | ⟨q1, q2⟩
  · cases q2; simp at q1
  · exact ⟨by simpa using q1, q2⟩
/-! Sines, directions: defined for every argument. -/
theorem sin_series : ∀ (l : List Int), (∀ k, k ∈ l → k ≠ 0) → l.length < 1000 → ∀ (u : Nat) (s : Int) (i : Nat) (x : Int), l.length - i = u → i ≤ l.length → Def (trig_series.p3 x s l l.length i) := by
  intro l hl hn u
  induction u with
  | zero =>
    intro s i x hu hi
    rw [trig_series.p3_eq, if_neg (by rw [dt]; omega)]
    exact .mk _
  | succ u ih =>
    intro s i x hu hi
    rw [trig_series.p3_eq, if_pos (by rw [dt]; omega), if_pos (by omega), if_pos (by omega), trig_times_eq]
    refine Def.bind ?_ fun r _ => ?_
    · exact (mulDiv_def _ _ _ (by omega)).bind fun _ _ => .mk _
    · have hi' : i < l.length := by omega
      rw [toNat_nat, getD_nat _ _ hi', wi_nat (by omega)]
      exact .no (hl _ (List.getElem_mem hi')) (ih _ (i + 1) x (by omega) (by omega))
theorem series_def (x : Int) (l : List Int) (h : ∀ k, k ∈ l → k ≠ 0) (hn : l.length < 1000) : Def (trig_series x l) := by
  rw [trig_series_eq]
  exact sin_series l h hn _ _ 0 x rfl (by omega)
theorem times_def (a b : Int) : Def (trig_times a b) := by
  rw [trig_times_eq]
  exact (mulDiv_def _ _ _ (by omega)).bind fun _ _ => .mk _
theorem quarter_def (t : Int) : Def (trig_quarter t) := by
  have p4 : ∀ (t : Int) (b : Bool), Def (trig_quarter.p4 t b) := by
    intro t b
    rw [trig_quarter.p4_eq]
    refine (mulDiv_def _ _ _ (by omega)).bind fun _ _ => (times_def _ _).bind fun _ _ => Def.ite (fun _ => ?_) (fun _ => ?_)
    · exact (series_def _ _ (by decide) (by decide)).bind fun _ _ => (roundDiv_def _ _).bind fun _ _ => .mk _
    · exact (series_def _ _ (by decide) (by decide)).bind fun _ _ => (times_def _ _).bind fun _ _ => (roundDiv_def _ _).bind fun _ _ => .mk _
  rw [trig_quarter_eq]
  exact Def.ite (fun _ => p4 _ _) (fun _ => p4 _ _)
theorem sin_def (a : Int) : Def (trig_Sin a) := by
  rw [trig_Sin_eq]
  repeat' (refine Def.ite (fun _ => ?_) (fun _ => ?_))
  all_goals exact (quarter_def _).bind fun _ _ => .mk _
theorem cos_def (a : Int) : Def (trig_Cos a) := by
  rw [trig_Cos_eq]
  exact (sin_def _).bind fun _ _ => .mk _
/-! Two computations with one answer. -/
def Same {α : Type} (p : α → Prop) (x y : Option α) : Prop := ∃ r, x = some r ∧ y = some r ∧ p r
theorem Same.mk {α : Type} {p : α → Prop} (a : α) (h : p a) : Same p (some a) (some a) := ⟨a, rfl, rfl, h⟩
theorem Same.ite {α : Type} {p : α → Prop} {c c' : Prop} [Decidable c] [Decidable c'] {a b a' b' : Option α} (h : c ↔ c') (h1 : c → Same p a a') (h2 : ¬ c → Same p b b') : Same p (if c then a else b) (if c' then a' else b') := by
  by_cases q : c
  · rw [if_pos q, if_pos (h.1 q)]; exact h1 q
  · rw [if_neg q, if_neg (fun k => q (h.2 k))]; exact h2 q
theorem Same.bind {α β : Type} {p : α → Prop} {q : β → Prop} {x y : Option β} {f g : β → Option α} (h : Same q x y) (k : ∀ r, q r → Same p (f r) (g r)) : Same p (x.bind f) (y.bind g) := by
  obtain ⟨r, h1, h2, h3⟩ := h
  rw [h1, h2]
  exact k r h3
theorem Same.of {α : Type} {p : α → Prop} {x y : Option α} (h1 : x = y) (h2 : ∃ r, y = some r ∧ p r) : Same p x y := by
  obtain ⟨r, h2, h3⟩ := h2
  exact ⟨r, h1.trans h2, h2, h3⟩
theorem Same.imp {α : Type} {p q : α → Prop} {x y : Option α} (h : Same p x y) (k : ∀ r, p r → q r) : Same q x y := by
  obtain ⟨r, h1, h2, h3⟩ := h
  exact ⟨r, h1, h2, k r h3⟩
/-- One more test on one side. -/
theorem Same.left {α : Type} {p : α → Prop} {c : Prop} [Decidable c] {a b y : Option α} (h1 : c → Same p a y) (h2 : ¬ c → Same p b y) : Same p (if c then a else b) y := by
  by_cases q : c
  · rw [if_pos q]; exact h1 q
  · rw [if_neg q]; exact h2 q
theorem Same.right {α : Type} {p : α → Prop} {c : Prop} [Decidable c] {a b x : Option α} (h1 : c → Same p x a) (h2 : ¬ c → Same p x b) : Same p x (if c then a else b) := by
  by_cases q : c
  · rw [if_pos q]; exact h1 q
  · rw [if_neg q]; exact h2 q
theorem Same.law {α : Type} {p : α → Prop} {x y : Option α} {f : α → α → Bool} (h : Same p x y) (hf : ∀ r, p r → f r r = true) : (x.bind fun a => y.bind fun b => some (f a b)) = some true := by
  obtain ⟨r, h1, h2, h3⟩ := h
  rw [h1, h2]
  show some (f r r) = some true
  rw [hf r h3]

end Go.Proofs.YtfnflhfdpbekeaaGreatDoor.Pure
