/- Quotients. -/
import Derived.Test.YtionphbdphbpnaaGreatEA0
import Derived.Test.YtionphbdphbpnaaGreatEA1
import Derived.Test.YtionphbdphbpnaaGreatEA2
import Derived.Test.YtionphbdphbpnaaGreatEA3
import Derived.Test.YtionphbdphbpnaaGreatEA4
import Derived.Test.YtionphbdphbpnaaGreatPl
import Derived.Test.YtionphbdphbpnaaGreatLemNum
namespace Go.Proofs.YtionphbdphbpnaaGreat.Pure
set_option linter.unusedVariables false
set_option linter.unusedSimpArgs false
open Go Go.RowKit Go.Proofs.YtionphbdphbpnaaGreat.Pv Go.Proofs.YtionphbdphbpnaaGreat.Pl Go.Proofs.YtionphbdphbpnaaGreat.EA

/-! Long division is defined. -/
theorem two_pow_le {k n : Nat} {x : Int} (h0 : (2 : Int) ^ n ≤ x) (hk : k ≤ n) : (2 : Int) ^ k ≤ x := by
  have : (2 : Nat) ^ k ≤ 2 ^ n := Nat.pow_le_pow_right (by omega) hk
  have h : (2 : Int) ^ k ≤ 2 ^ n := by exact_mod_cast this
  omega
theorem len10 {x : Int} {n2 : Int} (h0 : 1 ≤ x) (h1 : x < 256) (hn0 : 0 ≤ n2) (hn1 : n2 ≤ 56) : ∃ m : Nat, bits_Len64.p10 x n2 = some (n2 + (m + 1 : Nat)) ∧ m < 8 ∧ 2 ^ m ≤ x.toNat ∧ x.toNat < 2 ^ (m + 1) := by
  obtain ⟨m, e, h2, h3, h4⟩ := len_tab x.toNat (by omega) (by omega)
  rw [bits_Len64.p10_eq]
  rw [IntWalk.u8_in x ⟨by omega, by omega⟩, if_pos (by omega), if_pos (Int.lt_of_lt_of_le h1 (by decide +kernel)), e]
  refine ⟨m, ?_, h2, h3, h4⟩
  rw [wi (x := ((m + 1 : Nat) : Int)) (by omega) (by omega), wi (by omega) (by omega)]
theorem len_half {x : Int} {k m : Nat} (h0 : 0 ≤ x) (h1 : 2 ^ m ≤ (x / (2 : Int) ^ k).toNat) (h2 : (x / (2 : Int) ^ k).toNat < 2 ^ (m + 1)) : 2 ^ (m + k) ≤ x.toNat ∧ x.toNat < 2 ^ (m + k + 1) := by
  obtain ⟨X, rfl⟩ := Int.eq_ofNat_of_zero_le h0
  have e : ((X : Int) / (2 : Int) ^ k).toNat = X / 2 ^ k := by
    have : ((2 : Int) ^ k) = ((2 ^ k : Nat) : Int) := by simp
    rw [this, ← Int.natCast_ediv, Int.toNat_natCast]
  rw [e] at h1 h2
  rw [Int.toNat_natCast, show m + k + 1 = m + 1 + k by omega, Nat.pow_add, Nat.pow_add]
  have hp : 0 < 2 ^ k := Nat.two_pow_pos k
  exact ⟨(Nat.le_div_iff_mul_le hp).1 h1, (Nat.div_lt_iff_lt_mul hp).1 h2⟩
/-- The number of bits. -/
theorem len64 {y : Int} (h0 : 1 ≤ y) (h1 : y < 18446744073709551616) : ∃ m : Nat, bits_Len64 y = some ((m + 1 : Nat) : Int) ∧ m < 64 ∧ 2 ^ m ≤ y.toNat ∧ y.toNat < 2 ^ (m + 1) := by
  have f : ∀ (a : Int) (b : Int), 0 ≤ b → Int.fdiv a b = a / b := fun a b h => Int.fdiv_eq_ediv_of_nonneg a h
  have s7 : ∀ (x n : Int), 1 ≤ x → x < 65536 → 0 ≤ n → n ≤ 48 → ∃ m : Nat, bits_Len64.p7 x n = some (n + (m + 1 : Nat)) ∧ m < 16 ∧ 2 ^ m ≤ x.toNat ∧ x.toNat < 2 ^ (m + 1) := by
    intro x n h0 h1 hn0 hn1
    rw [bits_Len64.p7_eq, f _ _ (by omega)]
    by_cases h : x ≥ 256
    · rw [if_pos (by rw [dt]; exact h), wi (by omega) (by omega)]
      obtain ⟨m, e, q1, q2, q3⟩ := len10 (x := x / 256) (n2 := n + 8) (by omega) (by omega) (by omega) (by omega)
      have := len_half (x := x) (k := 8) (m := m) (by omega) q2 q3
      exact ⟨m + 8, by rw [e]; congr 1; omega, by omega, this.1, this.2⟩
    · rw [if_neg (by rw [dt]; exact h)]
      obtain ⟨m, e, q1, q2, q3⟩ := len10 (x := x) (n2 := n) (by omega) (by omega) (by omega) (by omega)
      exact ⟨m, e, by omega, q2, q3⟩
  have s4 : ∀ (x n : Int), 1 ≤ x → x < 4294967296 → 0 ≤ n → n ≤ 32 → ∃ m : Nat, bits_Len64.p4 x n = some (n + (m + 1 : Nat)) ∧ m < 32 ∧ 2 ^ m ≤ x.toNat ∧ x.toNat < 2 ^ (m + 1) := by
    intro x n h0 h1 hn0 hn1
    rw [bits_Len64.p4_eq, f _ _ (by omega)]
    by_cases h : x ≥ 65536
    · rw [if_pos (by rw [dt]; exact h), wi (by omega) (by omega)]
      obtain ⟨m, e, q1, q2, q3⟩ := s7 (x / 65536) (n + 16) (by omega) (by omega) (by omega) (by omega)
      have := len_half (x := x) (k := 16) (m := m) (by omega) q2 q3
      exact ⟨m + 16, by rw [e]; congr 1; omega, by omega, this.1, this.2⟩
    · rw [if_neg (by rw [dt]; exact h)]
      obtain ⟨m, e, q1, q2, q3⟩ := s7 x n (by omega) (by omega) (by omega) (by omega)
      exact ⟨m, e, by omega, q2, q3⟩
  rw [bits_Len64_eq, f _ _ (by omega)]
  by_cases h : y ≥ 4294967296
  · rw [if_pos (by rw [dt]; exact h)]
    obtain ⟨m, e, q1, q2, q3⟩ := s4 (y / 4294967296) 32 (by omega) (by omega) (by omega) (by omega)
    have := len_half (x := y) (k := 32) (m := m) (by omega) q2 q3
    exact ⟨m + 32, by rw [e]; congr 1; omega, by omega, this.1, this.2⟩
  · rw [if_neg (by rw [dt]; exact h)]
    obtain ⟨m, e, q1, q2, q3⟩ := s4 y 0 (by omega) (by omega) (by omega) (by omega)
    exact ⟨m, by rw [e]; congr 1; omega, by omega, q2, q3⟩
section
variable {y2 s8 yn1 yn0 un0 un1 un32 q r un21 q0 : Int}
theorem p25_hi (hs : 0 ≤ s8) (h : 2147483648 ≤ yn1) (h' : yn1 < 4294967296) (hr0 : 2147483648 ≤ r) (hr1 : r < 4294967296) : Def (bits_Div64.p25 y2 s8 yn1 yn0 un0 q r un21 q0) := by
  rw [bits_Div64.p25_eq, wu_in (by omega) (by omega), if_pos (by rw [dt]; omega)]
  exact .no (by omega) (.mk _)
theorem p24_of (hs : 0 ≤ s8) (h : Def (bits_Div64.p25 y2 s8 yn1 yn0 un0 q r un21 q0)) : Def (bits_Div64.p24 y2 s8 yn1 yn0 un0 q r un21 q0) := by
  rw [bits_Div64.p24_eq]
  refine Def.ite (fun _ => Def.ite (fun _ => h) (fun _ => ?_)) (fun _ => h)
  exact .no (by omega) (.mk _)
theorem p25_mid (hs : 0 ≤ s8) (h : 2147483648 ≤ yn1) (h' : yn1 < 4294967296) (hr0 : 0 ≤ r) (hr1 : r < 4294967296) : Def (bits_Div64.p25 y2 s8 yn1 yn0 un0 q r un21 q0) := by
  rw [bits_Div64.p25_eq]
  refine Def.ite (fun _ => .no (by omega) (.mk _)) (fun hn => ?_)
  rw [dt, wu_in (by omega) (by omega)] at hn
  rw [wu_in (by omega) (by omega)]
  exact p24_of hs (p25_hi hs h h' (by omega) (by omega))
theorem p25_def (hs : 0 ≤ s8) (h : 2147483648 ≤ yn1) (h' : yn1 < 4294967296) : Def (bits_Div64.p25 y2 s8 yn1 yn0 un0 q r un21 q0) := by
  rw [bits_Div64.p25_eq]
  refine Def.ite (fun _ => .no (by omega) (.mk _)) (fun hn => ?_)
  rw [dt] at hn
  have := wu_pos (r + yn1)
  exact p24_of hs (p25_mid hs h h' (by omega) (by omega))
theorem p24_def (hs : 0 ≤ s8) (h : 2147483648 ≤ yn1) (h' : yn1 < 4294967296) : Def (bits_Div64.p24 y2 s8 yn1 yn0 un0 q r un21 q0) := p24_of hs (p25_def hs h h')
theorem p18_hi (hs : 0 ≤ s8) (h : 2147483648 ≤ yn1) (h' : yn1 < 4294967296) (hr0 : 2147483648 ≤ r) (hr1 : r < 4294967296) : Def (bits_Div64.p18 y2 s8 yn1 yn0 un32 un1 un0 q r) := by
  rw [bits_Div64.p18_eq, wu_in (x := r + yn1) (by omega) (by omega), if_pos (by rw [dt]; omega)]
  exact .no (by omega) (p24_def hs h h')
theorem p17_of (hs : 0 ≤ s8) (h : 2147483648 ≤ yn1) (h' : yn1 < 4294967296) (k : Def (bits_Div64.p18 y2 s8 yn1 yn0 un32 un1 un0 q r)) : Def (bits_Div64.p17 y2 s8 yn1 yn0 un32 un1 un0 q r) := by
  rw [bits_Div64.p17_eq]
  refine Def.ite (fun _ => Def.ite (fun _ => k) (fun _ => ?_)) (fun _ => k)
  exact .no (by omega) (p24_def hs h h')
theorem p18_mid (hs : 0 ≤ s8) (h : 2147483648 ≤ yn1) (h' : yn1 < 4294967296) (hr0 : 0 ≤ r) (hr1 : r < 4294967296) : Def (bits_Div64.p18 y2 s8 yn1 yn0 un32 un1 un0 q r) := by
  rw [bits_Div64.p18_eq]
  refine Def.ite (fun _ => .no (by omega) (p24_def hs h h')) (fun hn => ?_)
  rw [dt, wu_in (by omega) (by omega)] at hn
  rw [wu_in (x := r + yn1) (by omega) (by omega)]
  exact p17_of hs h h' (p18_hi hs h h' (by omega) (by omega))
theorem p18_def (hs : 0 ≤ s8) (h : 2147483648 ≤ yn1) (h' : yn1 < 4294967296) : Def (bits_Div64.p18 y2 s8 yn1 yn0 un32 un1 un0 q r) := by
  rw [bits_Div64.p18_eq]
  refine Def.ite (fun _ => .no (by omega) (p24_def hs h h')) (fun hn => ?_)
  rw [dt] at hn
  have := wu_pos (r + yn1)
  exact p17_of hs h h' (p18_mid hs h h' (by omega) (by omega))
theorem p17_def (hs : 0 ≤ s8) (h : 2147483648 ≤ yn1) (h' : yn1 < 4294967296) : Def (bits_Div64.p17 y2 s8 yn1 yn0 un32 un1 un0 q r) := p17_of hs h h' (p18_def hs h h')
end
theorem div64_def {hi lo y : Int} (h0 : 0 < y) (h1 : y < 18446744073709551616) (h2 : hi < y) : Def (bits_Div64 hi lo y) := by
  rw [bits_Div64_eq, if_neg (by rw [eq_t]; omega), if_neg (by rw [dt]; omega)]
  refine Def.ite (fun _ => .no (by omega) (.no (by omega) (.mk _))) (fun _ => ?_)
  obtain ⟨m, e, hm, q1, q2⟩ := len64 (y := y) (by omega) h1
  rw [bits_LeadingZeros64_eq, e, bind_some_, bind_some_]
  have es : IntKind.u64.wrap (IntKind.i64.wrap (64 - ((m + 1 : Nat) : Int))) = ((63 - m : Nat) : Int) := by
    rw [wi (by omega) (by omega), wu_in (by omega) (by omega)]
    omega
  have es2 : IntKind.u64.wrap (64 - ((63 - m : Nat) : Int)) = ((m + 1 : Nat) : Int) := by
    rw [wu_in (by omega) (by omega)]
    omega
  rw [es, es2]
  have en : min (((63 - m : Nat) : Int)).toNat 64 = 63 - m := by
    rw [Int.toNat_natCast]
    omega
  rw [en]
  have hy : 9223372036854775808 ≤ y * 2 ^ (63 - m) ∧ y * 2 ^ (63 - m) < 18446744073709551616 := by
    obtain ⟨Y, rfl⟩ := Int.eq_ofNat_of_zero_le (show 0 ≤ y by omega)
    rw [Int.toNat_natCast] at q1 q2
    have ep : ((2 : Int) ^ (63 - m)) = ((2 ^ (63 - m) : Nat) : Int) := by simp
    rw [ep, ← Int.natCast_mul]
    have a1 : 2 ^ m * 2 ^ (63 - m) ≤ Y * 2 ^ (63 - m) := Nat.mul_le_mul_right _ q1
    have a2 : Y * 2 ^ (63 - m) < 2 ^ (m + 1) * 2 ^ (63 - m) := Nat.mul_lt_mul_of_pos_right q2 (Nat.two_pow_pos _)
    rw [← Nat.pow_add, show m + (63 - m) = 63 by omega] at a1
    rw [← Nat.pow_add, show m + 1 + (63 - m) = 64 by omega] at a2
    have b1 : (2 : Nat) ^ 63 = 9223372036854775808 := by decide
    have b2 : (2 : Nat) ^ 64 = 18446744073709551616 := by decide
    omega
  rw [wu_in (x := y * 2 ^ (63 - m)) (by omega) hy.2]
  rw [Int.fdiv_eq_ediv_of_nonneg (y * 2 ^ (63 - m)) (show (0 : Int) ≤ 4294967296 by omega)]
  generalize y * 2 ^ (63 - m) = Z at hy ⊢
  refine .no (by omega) (.no (by omega) (.no (by omega) (.no (by omega) (.no (by omega) ?_))))
  exact p17_def (by omega) (by omega) (by omega)
theorem wideDiv_def (w : Int × Int) (d : Int) (hd : d < 9223372036854775808) : Def (num_Wide_Div w d) := by
  have p14 : ∀ (q r : Int) (mo : Int) (w : Int × Int), Def (num_Wide_Div.p14 q r mo w) := by
    intro q r mo w
    rw [num_Wide_Div.p14_eq]
    repeat' (refine Def.ite (fun _ => ?_) (fun _ => ?_))
    all_goals exact .mk _
  have p6 : ∀ (w m : Int × Int), 1 ≤ d → Def (num_Wide_Div.p6 d w m) := by
    intro w m h
    rw [num_Wide_Div.p6_eq]
    refine Def.ite (fun _ => .mk _) (fun hn => ?_)
    rw [dt] at hn
    rw [wu_in (x := d) (by omega) (by omega)] at hn ⊢
    refine (div64_def (by omega) (by omega) (by omega)).bind fun _ _ => ?_
    repeat' (refine Def.ite (fun _ => ?_) (fun _ => ?_))
    all_goals exact p14 _ _ _ _
  rw [num_Wide_Div_eq]
  refine Def.ite (fun _ => .mk _) (fun hn => ?_)
  rw [dt] at hn
  exact Def.ite (fun _ => (neg_def _).bind fun _ _ => p6 _ _ (by omega)) (fun _ => p6 _ _ (by omega))
theorem mulDiv_def (a b c : Int) (hc : c < 9223372036854775808) : Def (num_MulDiv a b c) := by
  rw [num_MulDiv_eq]
  exact (product_def a b).bind fun w _ => (wideDiv_def w c hc).bind fun _ _ => .mk _
theorem roundDiv_def (a b : Int) : Def (num_RoundDiv a b) := by
  have p6 : ∀ q r, Def (num_RoundDiv.p6 b q r) := by
    intro q r
    rw [num_RoundDiv.p6_eq]
    repeat' (refine Def.ite (fun _ => ?_) (fun _ => ?_))
    all_goals exact .mk _
  rw [num_RoundDiv_eq]
  refine Def.ite (fun _ => .mk _) (fun hn => ?_)
  rw [dt] at hn
  refine .no (by omega) (.no (by omega) ?_)
  repeat' (refine Def.ite (fun _ => ?_) (fun _ => ?_))
  all_goals first | exact .mk _ | exact p6 _ _
theorem sqrt_p6 : ∀ (n : Nat) (hi lo r bit : Int), 0 ≤ bit → bit < 2 ^ n → Def (num_SqrtMul.p6 hi lo r bit) := by
  intro n
  induction n with
  | zero =>
    intro hi lo r bit h0 h1
    rw [num_SqrtMul.p6_eq, if_neg (by rw [dt]; simp at h1; omega)]
    exact .mk _
  | succ n ih =>
    intro hi lo r bit h0 h1
    rw [num_SqrtMul.p6_eq]
    refine Def.ite (fun _ => (mul64_def _ _).bind fun _ _ => ?_) (fun _ => .mk _)
    have e : Int.fdiv bit 2 = bit / 2 := Int.fdiv_eq_ediv_of_nonneg _ (by omega)
    have h2 : bit / 2 < 2 ^ n := by
      rw [Int.pow_succ] at h1
      omega
    rw [e]
    repeat' (refine Def.ite (fun _ => ?_) (fun _ => ?_))
    all_goals exact ih _ _ _ _ (by omega) h2
theorem sqrtMul_def (a b : Int) : Def (num_SqrtMul a b) := by
  rw [num_SqrtMul_eq]
  refine Def.ite (fun _ => Def.ite (fun _ => .mk _) (fun _ => (mul64_def _ _).bind fun _ _ => ?_)) (fun _ => .mk _)
  exact sqrt_p6 63 _ _ _ _ (by omega) (by decide)

end Go.Proofs.YtionphbdphbpnaaGreat.Pure
