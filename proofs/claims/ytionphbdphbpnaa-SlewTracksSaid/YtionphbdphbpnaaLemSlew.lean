/- Axes and poses. -/
import Derived.Test.YtionphbdphbpnaaEA0
import Derived.Test.YtionphbdphbpnaaEA1
import Derived.Test.YtionphbdphbpnaaEA2
import Derived.Test.YtionphbdphbpnaaEA3
import Derived.Test.YtionphbdphbpnaaPl
import Derived.Test.YtionphbdphbpnaaLemSame
namespace Go.Proofs.Ytionphbdphbpnaa.Pure
set_option linter.unusedVariables false
set_option linter.unusedSimpArgs false
open Go Go.RowKit Go.Proofs.Ytionphbdphbpnaa.Pv Go.Proofs.Ytionphbdphbpnaa.Pl Go.Proofs.Ytionphbdphbpnaa.EA

/-! Axes: what is wrong with one. -/
abbrev Ax := Int × Int × Int × Int
abbrev AxS := Int × Int × Int × Bool
def fault (mn mx sp ac : Int) : Int :=
  if mn < -17179869184 ∨ mx > 17179869184 then 4 else if mn > mx then 11 else if sp < 16777216 ∨ sp > 1073741824 ∨ ac > sp ∨ ac < 1 ∨ ac * 64 < sp then 4 else 0
structure AxOk (mn mx sp ac : Int) : Prop where
  lo : -17179869184 ≤ mn
  hi : mx ≤ 17179869184
  le : mn ≤ mx
  s0 : 16777216 ≤ sp
  s1 : sp ≤ 1073741824
  a0 : 1 ≤ ac
  a1 : ac ≤ sp
  a2 : sp ≤ 64 * ac
theorem fault_ok {mn mx sp ac : Int} (h : fault mn mx sp ac = 0) : AxOk mn mx sp ac := by
  unfold fault at h
  split at h
  · cases h
  · split at h
    · cases h
    · split at h
      · cases h
      · exact ⟨by omega, by omega, by omega, by omega, by omega, by omega, by omega, by omega⟩
theorem f4a {mn mx sp ac : Int} (h : mn < -17179869184 ∨ mx > 17179869184) : some 4 = some (fault mn mx sp ac) := by rw [fault, if_pos h]
theorem f11 {mn mx sp ac : Int} (h : ¬ (mn < -17179869184 ∨ mx > 17179869184)) (k : mn > mx) : some 11 = some (fault mn mx sp ac) := by rw [fault, if_neg h, if_pos k]
theorem f4b {mn mx sp ac : Int} (h : ¬ (mn < -17179869184 ∨ mx > 17179869184)) (k : ¬ mn > mx) (l : sp < 16777216 ∨ sp > 1073741824 ∨ ac > sp ∨ ac < 1 ∨ ac * 64 < sp) : some 4 = some (fault mn mx sp ac) := by rw [fault, if_neg h, if_neg k, if_pos l]
theorem f0 {mn mx sp ac : Int} (h : ¬ (mn < -17179869184 ∨ mx > 17179869184)) (k : ¬ mn > mx) (l : ¬ (sp < 16777216 ∨ sp > 1073741824 ∨ ac > sp ∨ ac < 1 ∨ ac * 64 < sp)) : some 0 = some (fault mn mx sp ac) := by rw [fault, if_neg h, if_neg k, if_neg l]
theorem check_eq (mn mx sp ac : Int) : slew_CheckAxis (mn, mx, sp, ac) = some (fault mn mx sp ac) := by
  simp only [slew_CheckAxis_eq, dt, df, ite_not]
  repeat' (refine ite_eq (fun _ => ?_) (fun _ => ?_))
  all_goals first
    | exact f4a (by omega)
    | exact f11 (by omega) (by omega)
    | exact f4b (by omega) (by omega) (by omega)
    | (have := wi (x := ac * 64) (by omega) (by omega); first | exact f4b (by omega) (by omega) (by omega) | exact f0 (by omega) (by omega) (by omega))
theorem fault_eq (mn mx sp ac : Int) : spyref2_AxisFault (mn, mx, sp, ac) = some (fault mn mx sp ac) := by
  simp only [spyref2_AxisFault_eq, dt, df, ite_not]
  repeat' (refine ite_eq (fun _ => ?_) (fun _ => ?_))
  all_goals first
    | exact f4a (by omega)
    | exact f11 (by omega) (by omega)
    | exact f4b (by omega) (by omega) (by omega)
    | (have := wi (x := 64 * ac) (by omega) (by omega); first | exact f4b (by omega) (by omega) (by omega) | exact f0 (by omega) (by omega) (by omega))
theorem in_eq (mn mx sp ac p : Int) : slew_In (mn, mx, sp, ac) p = some (decide (mn ≤ p ∧ p ≤ mx)) := by
  simp only [slew_In_eq, dt]
  refine ite_eq (fun h => ?_) (fun h => ?_)
  · simp [h]
  · simp [h]
theorem within_eq (mn mx sp ac p : Int) : spyref2_Within (mn, mx, sp, ac) p = some (decide (mn ≤ p ∧ p ≤ mx)) := by
  simp only [spyref2_Within_eq, dt]
  refine ite_eq (fun h => ?_) (fun h => ?_)
  · simp only [show mn ≤ p from h, true_and]
  · simp only [show ¬ mn ≤ p from h, false_and, decide_false]
def mn (a b : Int) : Int := if b < a then b else a
/-! The braking distance, and the greatest speed. -/
def sk : Nat → Int
  | 0 => 0
  | k + 1 => sk k + k
def brk (A : Int) : Nat → Int → Int
  | 0, _ => 0
  | n + 1, v => if v > 0 then v + brk A n (v - A) else 0
theorem brk_nonneg (A : Int) : ∀ (n : Nat) (v : Int), 0 ≤ brk A n v
  | 0, _ => Int.le_refl _
  | n + 1, v => by
    unfold brk
    split
    · have := brk_nonneg A n (v - A)
      omega
    · exact Int.le_refl _
theorem brk_mono (A : Int) : ∀ (n : Nat) (v v' : Int), v ≤ v' → brk A n v ≤ brk A n v'
  | 0, _, _, _ => Int.le_refl _
  | n + 1, v, v', h => by
    unfold brk
    have := brk_mono A n (v - A) (v' - A) (by omega)
    have := brk_nonneg A n (v' - A)
    split <;> split <;> omega
theorem brk_lower (A : Int) (hA : 1 ≤ A) : ∀ (n k : Nat) (v : Int), k ≤ n → (k : Int) * v - A * sk k ≤ brk A n v
  | n, 0, v, _ => by
    have := brk_nonneg A n v
    simp [sk]
    omega
  | 0, k + 1, v, h => by omega
  | n + 1, k + 1, v, h => by
    have ih := brk_lower A hA n k (v - A) (by omega)
    have e : ((k + 1 : Nat) : Int) * v - A * sk (k + 1) = v + ((k : Int) * (v - A) - A * sk k) := by
      simp only [sk]
      push_cast
      grind
    unfold brk
    split
    · omega
    · rename_i hv
      have h1 : ((k + 1 : Nat) : Int) * v ≤ 0 := Int.mul_nonpos_of_nonneg_of_nonpos (by omega) (by omega)
      have h2 : 0 ≤ sk (k + 1) := by
        clear ih e h h1
        have : ∀ j, 0 ≤ sk j := fun j => by
          induction j with
          | zero => exact Int.le_refl _
          | succ j ih => simp only [sk]; omega
        exact this _
      have h3 : 0 ≤ A * sk (k + 1) := Int.mul_nonneg (by omega) h2
      omega
theorem sk_nonneg : ∀ k, 0 ≤ sk k
  | 0 => Int.le_refl _
  | k + 1 => by
    have := sk_nonneg k
    simp only [sk]
    omega
theorem brk_eq (A : Int) (hA : 1 ≤ A) : ∀ (n k : Nat) (v : Int), k ≤ n → ((k : Int) - 1) * A ≤ v → v ≤ (k : Int) * A → 0 ≤ v → brk A n v = (k : Int) * v - A * sk k
  | n, 0, v, _, _, h1, h0 => by
    have hv : v = 0 := by
      have : ((0 : Nat) : Int) * A = 0 := by simp
      omega
    subst hv
    cases n <;> simp [brk, sk]
  | 0, k + 1, v, h, _, _, _ => by omega
  | n + 1, k + 1, v, h, hl, hu, h0 => by
    have e : ((k + 1 : Nat) : Int) * v - A * sk (k + 1) = v + ((k : Int) * (v - A) - A * sk k) := by
      simp only [sk]
      push_cast
      grind
    have hl' : ((k : Int)) * A ≤ v := by
      have : (((k + 1 : Nat) : Int) - 1) * A = (k : Int) * A := by
        push_cast
        grind
      omega
    have hu' : v ≤ (k : Int) * A + A := by
      have : ((k + 1 : Nat) : Int) * A = (k : Int) * A + A := by
        push_cast
        grind
      omega
    have hm : ((k : Int) - 1) * A = (k : Int) * A - A := by grind
    rw [e]
    unfold brk
    by_cases hv : v > 0
    · rw [if_pos hv]
      by_cases hk : k = 0
      · subst hk
        have : brk A n (v - A) = 0 := by
          cases n with
          | zero => rfl
          | succ n =>
            unfold brk
            rw [if_neg (by omega)]
        rw [this]
        simp [sk]
      · by_cases hva : 0 ≤ v - A
        · rw [brk_eq A hA n k (v - A) (by omega) (by omega) (by omega) hva]
        · exfalso
          have : A ≤ (k : Int) * A := by
            have h2 : (1 : Int) * A ≤ (k : Int) * A := Int.mul_le_mul_of_nonneg_right (by omega) (by omega)
            omega
          omega
    · have hv0 : v = 0 := by omega
      subst hv0
      rw [if_neg (by omega)]
      have hk : k = 0 := by
        by_cases hk : k = 0
        · exact hk
        · exfalso
          have h2 : (1 : Int) * A ≤ (k : Int) * A := Int.mul_le_mul_of_nonneg_right (by omega) (by omega)
          omega
      subst hk
      simp [sk]
/-- The greatest speed, at most S, whose braking distance is at most d. -/
structure IsFast (S A d r : Int) : Prop where
  r0 : 0 ≤ r
  r1 : r ≤ S
  le : brk A 65 r ≤ d
  gt : r = S ∨ d < brk A 65 (r + 1)
theorem fast_uniq {S A d r r' : Int} (h : IsFast S A d r) (h' : IsFast S A d r') : r = r' := by
  obtain ⟨a0, a1, a2, a3⟩ := h
  obtain ⟨b0, b1, b2, b3⟩ := h'
  rcases Int.lt_trichotomy r r' with c | c | c
  · have := brk_mono A 65 (r + 1) r' (by omega)
    omega
  · exact c
  · have := brk_mono A 65 (r' + 1) r (by omega)
    omega
theorem sk_two : ∀ k : Nat, 2 * sk k = (k : Int) * ((k : Int) - 1)
  | 0 => rfl
  | k + 1 => by
    have ih := sk_two k
    simp only [sk]
    push_cast
    grind
theorem sk_tdiv (k : Nat) : Int.tdiv ((k : Int) * ((k : Int) - 1)) 2 = sk k := by
  rw [← sk_two k, Int.tdiv_eq_ediv_of_nonneg (by have := sk_nonneg k; omega)]
  omega
theorem sk_mono {j k : Nat} (h : j ≤ k) : sk j ≤ sk k := by
  induction k with
  | zero =>
    obtain rfl : j = 0 := by omega
    exact Int.le_refl _
  | succ k ih =>
    by_cases e : j = k + 1
    · subst e
      exact Int.le_refl _
    · have := ih (by omega)
      simp only [sk]
      omega
theorem ask_bound {A : Int} (h0 : 1 ≤ A) (h1 : A ≤ 1073741824) {k : Nat} (hk : k ≤ 66) : 0 ≤ A * sk k ∧ A * sk k ≤ 2303229231104 := by
  have a := sk_nonneg k
  have b : sk k ≤ 2145 := by
    have := sk_mono (j := k) (k := 66) hk
    have e : sk 66 = 2145 := by decide +kernel
    omega
  refine ⟨Int.mul_nonneg (by omega) a, ?_⟩
  have := Int.mul_le_mul h1 b a (by omega : (0 : Int) ≤ 1073741824)
  omega
theorem mn_le (a b : Int) : mn a b ≤ a ∧ mn a b ≤ b ∧ (mn a b = a ∨ mn a b = b) := by
  unfold mn
  split <;> omega
theorem fast_hit {S A d : Int} (a0 : 1 ≤ A) {k : Nat} (h1 : 1 ≤ k) (h2 : k ≤ 65) (hlo : A * sk k ≤ d) (hhi : d ≤ A * sk (k + 1)) (hd : 0 ≤ d) (hS : 0 ≤ S) :
    IsFast S A d (mn S ((d + A * sk k) / (k : Int))) ∧ 0 ≤ (d + A * sk k) / (k : Int) ∧ (d + A * sk k) / (k : Int) ≤ (k : Int) * A := by
  obtain ⟨q, hq⟩ : ∃ q, q = (d + A * sk k) / (k : Int) := ⟨_, rfl⟩
  have kp : (0 : Int) < k := by omega
  have ap : 0 ≤ A * sk k := Int.mul_nonneg (by omega) (sk_nonneg k)
  have q1 : (k : Int) * q ≤ d + A * sk k := by rw [hq]; exact Int.mul_ediv_self_le (by omega)
  have q2 : d + A * sk k < (k : Int) * q + k := by
    have := Int.lt_mul_ediv_self_add (x := d + A * sk k) (k := (k : Int)) kp
    rw [← hq] at this
    exact this
  have q0 : 0 ≤ q := by rw [hq]; exact Int.ediv_nonneg (by omega) (by omega)
  rw [← hq]
  clear hq
  have s2 := sk_two k
  have g5 : sk (k + 1) = sk k + k := rfl
  have e1 : A * sk (k + 1) = A * sk k + A * k := by rw [g5]; grind
  have u : q ≤ (k : Int) * A := by
    apply Int.le_of_mul_le_mul_left (a := (k : Int)) _ kp
    have : (k : Int) * ((k : Int) * A) = 2 * (A * sk k) + A * k := by grind
    omega
  have l : ((k : Int) - 1) * A ≤ q := by
    have e3 : (k : Int) * (((k : Int) - 1) * A) = 2 * (A * sk k) := by grind
    have e4 : (k : Int) * (q + 1) = (k : Int) * q + k := by grind
    have : (k : Int) * (((k : Int) - 1) * A) < (k : Int) * (q + 1) := by omega
    have := Int.lt_of_mul_lt_mul_left this (by omega)
    omega
  have f1 := brk_eq A a0 65 k q (by omega) l u q0
  have f2 := brk_lower A a0 65 k (q + 1) (by omega)
  have f3 : (k : Int) * (q + 1) = (k : Int) * q + k := by grind
  have m := mn_le S q
  refine ⟨⟨by omega, m.1, ?_, ?_⟩, q0, u⟩
  · have := brk_mono A 65 (mn S q) q m.2.1
    omega
  · rcases m.2.2 with m | m
    · exact Or.inl m
    · rw [m]
      exact Or.inr (by omega)
theorem tri_up {k : Nat} (hk : k ≤ 65) : IntKind.i64.wrap (Int.tdiv (IntKind.i64.wrap ((k : Int) * IntKind.i64.wrap ((k : Int) + 1))) 2) = sk (k + 1) := by
  have e : (k : Int) * ((k : Int) + 1) = ((k + 1 : Nat) : Int) * (((k + 1 : Nat) : Int) - 1) := by
    push_cast
    grind
  have c : (k : Int) * ((k : Int) + 1) ≤ 65 * 66 := Int.mul_le_mul (by omega) (by omega) (by omega) (by omega)
  have c0 : 0 ≤ (k : Int) * ((k : Int) + 1) := Int.mul_nonneg (by omega) (by omega)
  have g := sk_tdiv (k + 1)
  have g0 := sk_nonneg (k + 1)
  have s2 := sk_two (k + 1)
  rw [wi (x := (k : Int) + 1) (by omega) (by omega), wi (x := (k : Int) * ((k : Int) + 1)) (by omega) (by omega), e, g, wi (by omega) (by omega)]
theorem tri_down {k : Nat} (h1 : 1 ≤ k) (hk : k ≤ 65) : IntKind.i64.wrap (Int.tdiv (IntKind.i64.wrap ((k : Int) * IntKind.i64.wrap ((k : Int) - 1))) 2) = sk k := by
  have c : (k : Int) * ((k : Int) - 1) ≤ 65 * 66 := Int.mul_le_mul (by omega) (by omega) (by omega) (by omega)
  have c0 : 0 ≤ (k : Int) * ((k : Int) - 1) := Int.mul_nonneg (by omega) (by omega)
  have g := sk_tdiv k
  have g0 := sk_nonneg k
  have s2 := sk_two k
  rw [wi (x := (k : Int) - 1) (by omega) (by omega), wi (x := (k : Int) * ((k : Int) - 1)) (by omega) (by omega), g, wi (by omega) (by omega)]
theorem fast_end {mn_ mx sp ac d : Int} (h : AxOk mn_ mx sp ac) (hlt : ac * sk 65 < d) : IsFast sp ac d sp := by
  obtain ⟨_, _, _, s0, s1, a0, a1, a2⟩ := h
  have e : sk 65 = 2080 := by decide +kernel
  have e2 : sk 64 = 2016 := by decide +kernel
  rw [e] at hlt
  have m := brk_mono ac 65 sp (64 * ac) (by omega)
  have q := brk_eq ac a0 65 64 (64 * ac) (by omega) (by omega) (by omega) (by omega)
  rw [e2] at q
  exact ⟨by omega, Int.le_refl _, by omega, Or.inl rfl⟩
theorem fast_loop {mn_ mx sp ac d : Int} (h : AxOk mn_ mx sp ac) (hd : 0 ≤ d) : ∀ (n k : Nat), k + n = 65 → 1 ≤ k → ac * sk k < d ∨ k = 1 → ∃ r, slew_fastest.p2 d (k : Int) (mn_, mx, sp, ac) = some r ∧ IsFast sp ac d r
  | 0, k, hk, _, hlt => by
    obtain rfl : k = 65 := by omega
    exact ⟨sp, by rw [slew_fastest.p2_eq]; simp only [dt]; rw [if_neg (by omega)], fast_end h (by omega)⟩
  | n + 1, k, hk, h1, hlt => by
    have s0 := h.s0
    have s1 := h.s1
    have a0 := h.a0
    have a1 := h.a1
    have b1 := ask_bound (A := ac) a0 (by omega) (k := k + 1) (by omega)
    have b0 := ask_bound (A := ac) a0 (by omega) (k := k) (by omega)
    rw [slew_fastest.p2_eq]
    simp only [dt]
    rw [if_pos (by omega), tri_up (by omega), tri_down h1 (by omega), wi (x := ac * sk (k + 1)) (by omega) (by omega), wi (x := ac * sk k) (by omega) (by omega)]
    by_cases c : d ≤ ac * sk (k + 1)
    · have hlo : ac * sk k ≤ d := by
        rcases hlt with hlt | rfl
        · omega
        · simp [sk]; exact hd
      obtain ⟨f, q0, u⟩ := fast_hit (S := sp) a0 h1 (by omega) hlo c hd (by omega)
      have u2 : (k : Int) * ac ≤ 65 * 1073741824 := Int.mul_le_mul (by omega) (by omega) (by omega) (by omega)
      have kn : ¬ (k : Int) = 0 := by omega
      rw [if_pos c, if_neg kn, wi (x := d + ac * sk k) (by omega) (by omega), Int.tdiv_eq_ediv_of_nonneg (by omega), wi (by omega) (by omega)]
      exact ⟨_, rfl, f⟩
    · rw [if_neg c, wi_nat (i := k) (by omega)]
      exact fast_loop h hd n (k + 1) (by omega) (by omega) (Or.inl (by omega))
theorem fastest_is {mn_ mx sp ac d : Int} (h : AxOk mn_ mx sp ac) (hd : 0 ≤ d) : ∃ r, slew_fastest (mn_, mx, sp, ac) d = some r ∧ IsFast sp ac d r := by
  rw [slew_fastest_eq]
  exact fast_loop h hd 64 1 rfl (by omega) (Or.inr rfl)
theorem braking_l0 {A : Int} (a0 : 1 ≤ A) (a1 : A ≤ 1073741824) : ∀ (n : Nat) (v s : Int), n ≤ 100 → v ≤ (n : Int) * A → v ≤ 1073741824 → -1073741824 ≤ v → 0 ≤ s → s ≤ (100 - (n : Int)) * 1073741824 → spyref2_Braking.p2 A v s = some (s + brk A n v)
  | 0, v, s, _, h1, _, _, _, _ => by
    rw [spyref2_Braking.p2_eq, if_neg (by rw [dt]; simp at h1; omega)]
    simp [brk]
  | n + 1, v, s, hn, h1, h2, h3, h4, h5 => by
    have e : ((n + 1 : Nat) : Int) * A = (n : Int) * A + A := by
      push_cast
      grind
    rw [spyref2_Braking.p2_eq]
    simp only [dt]
    unfold brk
    by_cases c : v > 0
    · rw [if_pos c, if_pos c, wi (by omega) (by omega), wi (by omega) (by omega), braking_l0 a0 a1 n (v - A) (s + v) (by omega) (by omega) (by omega) (by omega) (by omega) (by omega)]
      congr 1
      omega
    · rw [if_neg c, if_neg c]
      congr 1
      omega
theorem braking_eq {A : Int} (a0 : 1 ≤ A) (a1 : A ≤ 1073741824) {v : Int} (h : v ≤ 65 * A) (h1 : v ≤ 1073741824) (h2 : -1073741824 ≤ v) : spyref2_Braking A v = some (brk A 65 v) := by
  rw [spyref2_Braking_eq, braking_l0 a0 a1 65 v 0 (by omega) (by omega) h1 h2 (by omega) (by omega)]
  congr 1
  omega
theorem search_fast {mn_ mx sp ac d : Int} (h : AxOk mn_ mx sp ac) : ∀ (n : Nat) (lo hi : Int), hi - lo ≤ (n : Int) → 0 ≤ lo → lo ≤ hi → hi ≤ sp → brk ac 65 lo ≤ d → (hi = sp ∨ d < brk ac 65 (hi + 1)) →
    ∃ r, spyref2_Fastest.p6 d lo hi (mn_, mx, sp, ac) = some r ∧ IsFast sp ac d r := by
  intro n
  have s1 := h.s1
  have a0 := h.a0
  have a1 := h.a1
  have a2 := h.a2
  induction n with
  | zero =>
    intro lo hi h1 h2 h3 h4 h5 h6
    obtain rfl : lo = hi := by omega
    exact ⟨lo, by rw [spyref2_Fastest.p6_eq, if_neg (by rw [dt]; omega)], h2, h4, h5, h6⟩
  | succ n ih =>
    intro lo hi h1 h2 h3 h4 h5 h6
    by_cases c : lo < hi
    · obtain ⟨m, hm⟩ : ∃ m, m = (lo + hi + 1) / 2 := ⟨_, rfl⟩
      have e : IntKind.i64.wrap (Int.tdiv (IntKind.i64.wrap (IntKind.i64.wrap (lo + hi) + 1)) 2) = m := by
        rw [wi (x := lo + hi) (by omega) (by omega), wi (x := lo + hi + 1) (by omega) (by omega), Int.tdiv_eq_ediv_of_nonneg (by omega), ← hm, wi (by omega) (by omega)]
      have e2 : IntKind.i64.wrap (m - 1) = m - 1 := wi (by omega) (by omega)
      rw [spyref2_Fastest.p6_eq, if_pos (by rw [dt]; exact c), e, e2, braking_eq a0 (by omega) (by omega) (by omega) (by omega), bind_some_]
      simp only [dt]
      by_cases q : brk ac 65 m ≤ d
      · rw [if_pos q]
        exact ih m hi (by omega) (by omega) (by omega) h4 q h6
      · rw [if_neg q]
        exact ih lo (m - 1) (by omega) h2 (by omega) (by omega) h5 (Or.inr (by rw [Int.sub_add_cancel]; omega))
    · exact ⟨lo, by rw [spyref2_Fastest.p6_eq, if_neg (by rw [dt]; exact c)], h2, by omega, h5, by
        obtain rfl : lo = hi := by omega
        exact h6⟩
theorem brk_zero (A : Int) : brk A 65 0 = 0 := rfl
theorem reffast_is {mn_ mx sp ac d : Int} (h : AxOk mn_ mx sp ac) (hd : 0 ≤ d) : ∃ r, ((spyref2_Braking ac sp).bind fun r1 => if r1 ≤ d then some sp else spyref2_Fastest.p6 d 0 sp (mn_, mx, sp, ac)) = some r ∧ IsFast sp ac d r := by
  have s0 := h.s0
  have s1 := h.s1
  have a0 := h.a0
  have a1 := h.a1
  have a2 := h.a2
  rw [braking_eq a0 (by omega) (by omega) (by omega) (by omega), bind_some_]
  by_cases q : brk ac 65 sp ≤ d
  · exact ⟨sp, by rw [if_pos q], by omega, Int.le_refl _, q, Or.inl rfl⟩
  · obtain ⟨r, h1, h2⟩ := search_fast h (d := d) sp.toNat 0 sp (by omega) (by omega) (by omega) (by omega) (by rw [brk_zero]; exact hd) (Or.inl rfl)
    exact ⟨r, by rw [if_neg q, h1], h2⟩
/-- Both greatest speeds are one, for whatever axis. -/
theorem fastest_same (mn_ mx sp ac d : Int) : ∃ r, slew_Fastest (mn_, mx, sp, ac) d = some r ∧ spyref2_Fastest (mn_, mx, sp, ac) d = some r ∧ (fault mn_ mx sp ac = 0 → 0 ≤ d → IsFast sp ac d r) ∧ (fault mn_ mx sp ac ≠ 0 ∨ d < 0 → r = 0) := by
  rw [slew_Fastest_eq, spyref2_Fastest_eq, check_eq, fault_eq, bind_some_, bind_some_]
  simp only [dt, ne_f, bind_id]
  by_cases c : fault mn_ mx sp ac = 0
  · simp only [if_pos c]
    by_cases hd : d < 0
    · exact ⟨0, by rw [if_pos hd], by rw [if_pos hd], fun _ h => by omega, fun _ => rfl⟩
    · obtain ⟨r, h1, h2⟩ := fastest_is (fault_ok c) (d := d) (by omega)
      obtain ⟨r', h1', h2'⟩ := reffast_is (fault_ok c) (d := d) (by omega)
      obtain rfl := fast_uniq h2 h2'
      exact ⟨r, by rw [if_neg hd, h1], by rw [if_neg hd]; exact h1', fun _ _ => h2, fun q => by rcases q with q | q <;> omega⟩
  · simp only [if_neg c]
    exact ⟨0, rfl, rfl, fun h => absurd h c, fun _ => rfl⟩
/-! The position of an angle, both ways. -/
theorem mod_eq (x : Int) (h0 : -9223372036854775808 ≤ x) (h1 : x ≤ 9223372036854775807) : slew_mod x = some (x % 4294967296) := by
  rw [slew_mod_eq]
  simp only [dt]
  have e : x.tmod 4294967296 = if 0 ≤ x ∨ x % 4294967296 = 0 then x % 4294967296 else x % 4294967296 - 4294967296 := by
    rw [Int.tmod_eq_emod]
    have : ((4294967296 : Int) ∣ x) ↔ x % 4294967296 = 0 := Int.dvd_iff_emod_eq_zero
    by_cases c : 0 ≤ x
    · simp [c]
    · by_cases d : x % 4294967296 = 0
      · simp [d, this.2 d]
      · have nd : ¬ (4294967296 : Int) ∣ x := fun h => d (this.1 h)
        simp [c, d, nd]
  rw [e]
  split
  · rw [if_neg (by omega)]
  · rw [if_pos (by omega), wi (by omega) (by omega)]
    congr 1
    omega
theorem abs_eq (x : Int) (h0 : -9223372036854775807 ≤ x) (h1 : x ≤ 9223372036854775807) : slew_abs x = some (x.natAbs : Int) := by
  rw [slew_abs_eq, wi (x := 0 - x) (by omega) (by omega)]
  congr 1
  split <;> omega
theorem dist_eq (a b : Int) (h0 : -4611686018427387903 ≤ a) (h1 : a ≤ 4611686018427387903) (h2 : -4611686018427387903 ≤ b) (h3 : b ≤ 4611686018427387903) : spyref2_distance a b = some ((a - b).natAbs : Int) := by
  rw [spyref2_distance_eq]
  simp only [dt]
  split
  · rw [wi (by omega) (by omega)]
    congr 1
    omega
  · rw [wi (by omega) (by omega)]
    congr 1
    omega
/-- best is the nearest to fr, of two the smaller one, of the positions below hi that are congruent to an angle. -/
def Best (mn_ mx_ fr ang hi best : Int) : Prop := (mn_ ≤ best ∧ best ≤ mx_ ∧ best < hi ∧ (best - ang) % 4294967296 = 0) ∧ ∀ q, mn_ ≤ q → q ≤ mx_ → q < hi → (q - ang) % 4294967296 = 0 → (best - fr).natAbs < (q - fr).natAbs ∨ ((best - fr).natAbs = (q - fr).natAbs ∧ best ≤ q)
theorem best_uniq {mn_ mx_ fr ang hi hi' b b' : Int} (hh : mx_ < hi) (hh' : mx_ < hi') (h : Best mn_ mx_ fr ang hi b) (h' : Best mn_ mx_ fr ang hi' b') : b = b' := by
  have x := h.2 b' h'.1.1 h'.1.2.1 (by have := h'.1.2.1; omega) h'.1.2.2.2
  have y := h'.2 b h.1.1 h.1.2.1 (by have := h.1.2.1; omega) h.1.2.2.2
  omega
theorem best_next {mn_ mx_ fr ang p b : Int} (h : Best mn_ mx_ fr ang p b) (hp : (p - ang) % 4294967296 = 0) (h1 : mn_ ≤ p) (h2 : p ≤ mx_) : Best mn_ mx_ fr ang (p + 4294967296) (if (p - fr).natAbs < (b - fr).natAbs then p else b) := by
  obtain ⟨⟨b1, b2, b3, b4⟩, hb⟩ := h
  by_cases c : (p - fr).natAbs < (b - fr).natAbs
  · rw [if_pos c]
    refine ⟨⟨h1, h2, by omega, hp⟩, fun q q1 q2 q3 q4 => ?_⟩
    by_cases e : q < p
    · have := hb q q1 q2 e q4
      omega
    · have : q = p := by omega
      omega
  · rw [if_neg c]
    refine ⟨⟨b1, b2, by omega, b4⟩, fun q q1 q2 q3 q4 => ?_⟩
    by_cases e : q < p
    · exact hb q q1 q2 e q4
    · have : q = p := by omega
      omega
theorem best_over {mn_ mx_ fr ang p b hi : Int} (h : Best mn_ mx_ fr ang p b) (hp : (p - ang) % 4294967296 = 0) (h2 : mx_ < p) (h3 : p ≤ hi) : Best mn_ mx_ fr ang hi b := by
  obtain ⟨⟨b1, b2, b3, b4⟩, hb⟩ := h
  exact ⟨⟨b1, b2, by omega, b4⟩, fun q q1 q2 q3 q4 => hb q q1 q2 (by omega) q4⟩
theorem target_l0 {mn_ mx_ sp ac fr ang : Int} (l0 : -17179869184 ≤ mn_) (l1 : mx_ ≤ 17179869184) (l2 : mn_ ≤ mx_) (f0 : mn_ ≤ fr) (f1 : fr ≤ mx_) : ∀ (n : Nat) (p b : Int), mx_ - p < (n : Int) * 4294967296 → mn_ ≤ p → p ≤ mx_ + 4294967296 → (p - ang) % 4294967296 = 0 →
    (Best mn_ mx_ fr ang p b ∨ (b = p ∧ p ≤ mx_ ∧ p < mn_ + 4294967296)) → ∃ r, slew_Target.p10 fr p b (mn_, mx_, sp, ac) = some (r, 0) ∧ ∃ hi, mx_ < hi ∧ Best mn_ mx_ fr ang hi r := by
  intro n
  induction n with
  | zero =>
    intro p b h1 h2 h3 h4 h5
    rw [slew_Target.p10_eq]
    simp only [dt, df, not_t, not_f]
    rw [if_neg (by omega)]
    rcases h5 with h5 | h5
    · exact ⟨b, rfl, p, by omega, h5⟩
    · omega
  | succ n ih =>
    intro p b h1 h2 h3 h4 h5
    by_cases c : p ≤ mx_
    · have bb : -34359738368 ≤ b ∧ b ≤ 34359738368 := by
        rcases h5 with h5 | h5
        · have := h5.1
          omega
        · omega
      rw [slew_Target.p10_eq]
      simp only [dt, df, not_t, not_f]
      rw [if_pos c, wi (x := p - fr) (by omega) (by omega), wi (x := b - fr) (by omega) (by omega), abs_eq _ (by omega) (by omega), abs_eq _ (by omega) (by omega), bind_some_, bind_some_, wi (x := p + 4294967296) (by omega) (by omega)]
      have e : (((n + 1 : Nat)) : Int) * 4294967296 = (n : Int) * 4294967296 + 4294967296 := by omega
      rcases h5 with h5 | ⟨rfl, h5, h6⟩
      · have nx := best_next h5 h4 h2 c
        by_cases d : (p - fr).natAbs < (b - fr).natAbs
        · rw [if_pos d] at nx
          rw [if_pos (by omega)]
          exact ih _ _ (by omega) (by omega) (by omega) (by omega) (Or.inl nx)
        · rw [if_neg d] at nx
          rw [if_neg (by omega)]
          exact ih _ _ (by omega) (by omega) (by omega) (by omega) (Or.inl nx)
      · rw [if_neg (by omega)]
        refine ih _ _ (by omega) (by omega) (by omega) (by omega) (Or.inl ⟨⟨h2, c, by omega, h4⟩, fun q q1 q2 q3 q4 => ?_⟩)
        have : q = b := by omega
        omega
    · rw [slew_Target.p10_eq]
      simp only [dt, df, not_t, not_f]
      rw [if_neg c]
      rcases h5 with h5 | h5
      · exact ⟨b, rfl, p, by omega, h5⟩
      · omega
theorem rtarget_l0 {mn_ mx_ sp ac fr ang rest : Int} (l0 : -17179869184 ≤ mn_) (l1 : mx_ ≤ 17179869184) (f0 : mn_ ≤ fr) (f1 : fr ≤ mx_) (r0 : -4294967296 < rest) (r1 : rest < 4294967296) (ra : (rest - ang) % 4294967296 = 0) : ∀ (n : Nat) (k : Int) (found : Bool) (b : Int), k + (n : Int) = 7 → -6 ≤ k → 
    (found = true → Best mn_ mx_ fr ang (rest + k * 4294967296) b) → (found = false → ∀ q, mn_ ≤ q → q ≤ mx_ → q < rest + k * 4294967296 → (q - ang) % 4294967296 = 0 → False) → 
    (∃ r, spyref2_Target.p10 fr rest found b k (mn_, mx_, sp, ac) = some (r, 0) ∧ ∃ hi, mx_ < hi ∧ Best mn_ mx_ fr ang hi r) ∨ (spyref2_Target.p10 fr rest found b k (mn_, mx_, sp, ac) = some (0, 4) ∧ ∀ q, mn_ ≤ q → q ≤ mx_ → (q - ang) % 4294967296 = 0 → False) := by
  intro n
  induction n with
  | zero =>
    intro k found b hk hk2 h1 h2
    rw [spyref2_Target.p10_eq]
    simp only [dt, df, not_t, not_f]
    rw [if_neg (by omega)]
    cases found with
    | true => exact Or.inl ⟨b, by rw [if_neg (by simp)], _, by omega, h1 rfl⟩
    | false => exact Or.inr ⟨by rw [if_pos rfl], fun q q1 q2 q3 => h2 rfl q q1 q2 (by omega) q3⟩
  | succ n ih =>
    intro k found b hk hk2 h1 h2
    have pk : (rest + k * 4294967296 - ang) % 4294967296 = 0 := by omega
    rw [spyref2_Target.p10_eq]
    simp only [dt, df, not_t, not_f]
    rw [if_pos (by omega), wi (x := k * 4294967296) (by omega) (by omega), wi (x := rest + k * 4294967296) (by omega) (by omega), wi (x := k + 1) (by omega) (by omega), within_eq, bind_some_]
    have ek : rest + (k + 1) * 4294967296 = rest + k * 4294967296 + 4294967296 := by omega
    by_cases c : mn_ ≤ rest + k * 4294967296 ∧ rest + k * 4294967296 ≤ mx_
    · rw [if_pos (decide_eq_true c)]
      cases found with
      | true =>
        have hb := h1 rfl
        have b1 := hb.1
        have nx := best_next hb pk c.1 c.2
        rw [if_pos rfl, dist_eq _ _ (by omega) (by omega) (by omega) (by omega), dist_eq _ _ (by omega) (by omega) (by omega) (by omega), bind_some_, bind_some_]
        by_cases d : (rest + k * 4294967296 - fr).natAbs < (b - fr).natAbs
        · rw [if_pos d] at nx
          rw [if_pos (by omega)]
          exact ih _ _ _ (by omega) (by omega) (fun _ => by rw [ek]; exact nx) (fun h => by cases h)
        · rw [if_neg d] at nx
          rw [if_neg (by omega)]
          exact ih _ _ _ (by omega) (by omega) (fun _ => by rw [ek]; exact nx) (fun h => by cases h)
      | false =>
        rw [if_neg (by simp)]
        refine ih _ _ _ (by omega) (by omega) (fun _ => ⟨⟨c.1, c.2, by omega, pk⟩, fun q q1 q2 q3 q4 => ?_⟩) (fun h => by cases h)
        by_cases e : q < rest + k * 4294967296
        · exact (h2 rfl q q1 q2 e q4).elim
        · have : q = rest + k * 4294967296 := by omega
          omega
    · rw [if_neg (by simpa using c)]
      refine ih _ _ _ (by omega) (by omega) (fun h => ?_) (fun h q q1 q2 q3 q4 => ?_)
      · have hb := h1 h
        by_cases e : mx_ < rest + k * 4294967296
        · exact best_over hb pk e (by omega)
        · have := hb.1
          omega
      · by_cases e : q < rest + k * 4294967296
        · exact h2 h q q1 q2 e q4
        · have : q = rest + k * 4294967296 := by omega
          omega
theorem target_all (mn_ mx_ sp ac fr ang : Int) (w : (Lit.int .i64 ang).wf = true) : ∃ r, slew_Target (mn_, mx_, sp, ac) fr ang = some r ∧ spyref2_Target (mn_, mx_, sp, ac) fr ang = some r ∧ (r.2 = 0 → fault mn_ mx_ sp ac = 0 ∧ mn_ ≤ fr ∧ fr ≤ mx_ ∧ mn_ ≤ r.1 ∧ r.1 ≤ mx_) := by
  have wa := wf64 w
  rw [slew_Target_eq, spyref2_Target_eq, check_eq, fault_eq, bind_some_, bind_some_]
  simp only [ne_t, not_t, df, dt, within_eq, in_eq, bind_some_]
  by_cases hF : fault mn_ mx_ sp ac = 0
  · have h := fault_ok hF
    have l0 := h.lo
    have l1 := h.hi
    have l2 := h.le
    have nF : ¬ (fault mn_ mx_ sp ac ≠ 0) := fun q => q hF
    simp only [if_neg nF]
    by_cases c1 : mn_ ≤ fr ∧ fr ≤ mx_
    · have tm : (ang.tmod 4294967296 - ang) % 4294967296 = 0 ∧ -4294967296 < ang.tmod 4294967296 ∧ ang.tmod 4294967296 < 4294967296 := by
        have e := Int.tmod_add_mul_tdiv ang 4294967296
        have l := Int.tmod_lt_of_pos ang (b := 4294967296) (by omega)
        have g := Int.lt_tmod_of_pos ang (b := 4294967296) (by omega)
        exact ⟨by omega, by omega, by omega⟩
      have n1 : ¬ ¬ (mn_ ≤ fr ∧ fr ≤ mx_) := fun q => q c1
      simp only [if_neg n1]
      rw [mod_eq ang (by omega) (by omega), mod_eq mn_ (by omega) (by omega), bind_some_, bind_some_, wi (x := ang % 4294967296 - mn_ % 4294967296) (by omega) (by omega), mod_eq _ (by omega) (by omega), bind_some_, wi (x := mn_ + (ang % 4294967296 - mn_ % 4294967296) % 4294967296) (by omega) (by omega)]
      have R := rtarget_l0 (sp := sp) (ac := ac) l0 l1 c1.1 c1.2 tm.2.1 tm.2.2 tm.1 13 (-6) false 0 (by omega) (by omega) (fun h => by cases h) (fun _ q q1 q2 q3 q4 => by omega)
      obtain ⟨p, hp⟩ : ∃ p, p = mn_ + (ang % 4294967296 - mn_ % 4294967296) % 4294967296 := ⟨_, rfl⟩
      rw [← hp]
      have pp : (p - ang) % 4294967296 = 0 ∧ mn_ ≤ p ∧ p < mn_ + 4294967296 := by omega
      by_cases c2 : p > mx_
      · rw [if_pos c2]
        refine ⟨(0, 4), rfl, ?_, fun h => by cases h⟩
        rcases R with ⟨r, r1, hi, hh, hb⟩ | ⟨r1, _⟩
        · have := hb.1
          omega
        · exact r1
      · rw [if_neg c2]
        obtain ⟨r, r1, hi, hh, hb⟩ := target_l0 (sp := sp) (ac := ac) l0 l1 l2 c1.1 c1.2 10 p p (ang := ang) (by omega) pp.2.1 (by omega) pp.1 (Or.inr ⟨rfl, by omega, pp.2.2⟩)
        refine ⟨(r, 0), r1, ?_, fun _ => ⟨hF, c1.1, c1.2, hb.1.1, hb.1.2.1⟩⟩
        rcases R with ⟨r', r1', hi', hh', hb'⟩ | ⟨_, hn⟩
        · rw [r1', best_uniq hh hh' hb hb']
        · exact (hn r hb.1.1 hb.1.2.1 hb.1.2.2.2).elim
    · simp only [if_pos c1]
      exact ⟨(0, 4), rfl, rfl, fun h => by cases h⟩
  · simp only [if_pos hF]
    exact ⟨_, rfl, rfl, fun h => absurd h hF⟩
/-! Steps from rest to rest; poses. -/
theorem ge_brk {A : Int} (hA : 1 ≤ A) (v : Int) : v ≤ brk A 65 v := by
  have := brk_lower A hA 65 1 v (by omega)
  simp [sk] at this
  omega
theorem fast_zero {S A r : Int} (hA : 1 ≤ A) (h : IsFast S A 0 r) : r = 0 := by
  have := ge_brk hA r
  have := h.r0
  have := h.le
  omega
theorem fast_pos {S A d r : Int} (hA : 1 ≤ A) (hS : 1 ≤ S) (hd : 0 < d) (h : IsFast S A d r) : 1 ≤ r ∧ r ≤ d := by
  have a := ge_brk hA r
  have b := h.r0
  have c := h.le
  refine ⟨?_, by omega⟩
  rcases h.gt with e | e
  · omega
  · by_cases q : r = 0
    · subst q
      have : brk A 65 (0 + 1) ≤ 1 := by
        have := brk_eq A hA 65 1 1 (by omega) (by simp) (by simp; omega) (by omega)
        simp [sk] at this
        simp
        omega
      omega
    · omega
theorem fast_full {S A d r : Int} (h : IsFast S A d r) (hb : brk A 65 S ≤ d) : r = S := by
  rcases h.gt with e | e
  · exact e
  · by_cases q : r = S
    · exact q
    · have := brk_mono A 65 (r + 1) S (by have := h.r1; omega)
      omega
theorem stop_eq {mn_ mx_ sp ac : Int} (h : AxOk mn_ mx_ sp ac) : slew_stop (mn_, mx_, sp, ac) = some (brk ac 65 sp) := by
  obtain ⟨_, _, _, s0, s1, a0, a1, a2⟩ := h
  obtain ⟨q, hq⟩ : ∃ q, q = (sp + ac - 1) / ac := ⟨_, rfl⟩
  have q1 : ac * q ≤ sp + ac - 1 := by rw [hq]; exact Int.mul_ediv_self_le (by omega)
  have q2 : sp + ac - 1 < ac * q + ac := by
    have := Int.lt_mul_ediv_self_add (x := sp + ac - 1) (k := ac) (by omega)
    rw [← hq] at this
    exact this
  have q0 : 0 ≤ q := by rw [hq]; exact Int.ediv_nonneg (by omega) (by omega)
  have q3 : q ≤ 64 := by
    have : ac * q < ac * 65 := by omega
    have := Int.lt_of_mul_lt_mul_left this (by omega)
    omega
  have q4 : 1 ≤ q := by
    by_cases e : q = 0
    · subst e
      simp at q2
      omega
    · omega
  have e1 : Int.tdiv (IntKind.i64.wrap (IntKind.i64.wrap (sp + ac) - 1)) ac = q := by
    rw [wi (x := sp + ac) (by omega) (by omega), wi (x := sp + ac - 1) (by omega) (by omega), Int.tdiv_eq_ediv_of_nonneg (by omega), ← hq]
  obtain ⟨k, rfl⟩ := Int.eq_ofNat_of_zero_le q0
  have b := ask_bound a0 (by omega) (k := k) (by omega)
  have c : (k : Int) * sp ≤ 64 * 1073741824 := Int.mul_le_mul (by omega) (by omega) (by omega) (by omega)
  have c0 : 0 ≤ (k : Int) * sp := Int.mul_nonneg (by omega) (by omega)
  have m : ((k : Int) - 1) * ac = ac * k - ac := by grind
  have m2 : (k : Int) * ac = ac * k := Int.mul_comm _ _
  rw [brk_eq ac a0 65 k sp (by omega) (by omega) (by omega) (by omega)]
  rw [slew_stop_eq]
  simp only
  rw [if_neg (by omega), e1, wi (x := (k : Int)) (by omega) (by omega), tri_down (by omega) (by omega), wi (x := ac * sk k) (by omega) (by omega), wi (x := (k : Int) * sp) (by omega) (by omega), wi (by omega) (by omega)]
theorem ref_step {mn_ mx_ sp ac d v n f : Int} (h : AxOk mn_ mx_ sp ac) (hd : 0 < d) (hd2 : d ≤ 68719476736) (hv : 0 ≤ v) (hv2 : v ≤ sp) (hn : 0 ≤ n) (hn2 : n ≤ 68719476736) (h2 : spyref2_Fastest (mn_, mx_, sp, ac) d = some f) (hf : IsFast sp ac d f) :
    spyref2_Steps.p7 d v n (mn_, mx_, sp, ac) = spyref2_Steps.p7 (d - mn (v + ac) f) (mn (v + ac) f) (n + 1) (mn_, mx_, sp, ac) := by
  obtain ⟨_, _, _, s0, s1, a0, a1, a2⟩ := h
  obtain ⟨p1, p2⟩ := fast_pos a0 (by omega) hd hf
  have p3 := hf.r1
  rw [spyref2_Steps.p7_eq, if_neg (by rw [df]; omega), spyref2_Steps.p8_eq, h2, bind_some_]
  simp only [dt]
  rw [wi (x := v + ac) (by omega) (by omega), wi (x := n + 1) (by omega) (by omega), wi (x := d - f) (by omega) (by omega)]
  unfold mn
  by_cases c : f > v + ac
  · rw [if_pos c, if_neg (by omega), wi (by omega) (by omega)]
  · rw [if_neg c]
    by_cases e : f < v + ac
    · rw [if_pos e]
    · rw [if_neg e]
      obtain rfl : f = v + ac := by omega
      rfl
theorem ref_skip {mn_ mx_ sp ac : Int} (hF : fault mn_ mx_ sp ac = 0) : ∀ (j : Nat) (d v n : Int), d ≤ 68719476736 → 0 ≤ v → v ≤ sp → sp ≤ v + ac → 0 ≤ n → n + d ≤ 68719476736 → brk ac 65 sp + (j : Int) * sp ≤ d →
    spyref2_Steps.p7 d v n (mn_, mx_, sp, ac) = spyref2_Steps.p7 (d - ((j + 1 : Nat) : Int) * sp) sp (n + ((j + 1 : Nat) : Int)) (mn_, mx_, sp, ac)
  | 0, d, v, n, h1, h2, h3, h4, h5, h6, h7 => by
    have h := fault_ok hF
    have s0 := h.s0
    have a0 := h.a0
    have g := ge_brk a0 sp
    obtain ⟨f, _, f2, f3, _⟩ := fastest_same mn_ mx_ sp ac d
    have f4 := f3 hF (by simp at h7; omega)
    have f5 := fast_full f4 (by simp at h7; omega)
    subst f5
    have m : mn (v + ac) f = f := by
      unfold mn
      split <;> omega
    rw [ref_step h (by simp at h7; omega) h1 h2 h3 h5 (by simp at h7; omega) f2 f4, m]
    simp
  | j + 1, d, v, n, h1, h2, h3, h4, h5, h6, h7 => by
    have h := fault_ok hF
    have s0 := h.s0
    have a0 := h.a0
    have g := ge_brk a0 sp
    have e : ((j + 1 : Nat) : Int) * sp = (j : Int) * sp + sp := by
      push_cast
      grind
    have e2 : ((j + 1 + 1 : Nat) : Int) * sp = ((j + 1 : Nat) : Int) * sp + sp := by
      push_cast
      grind
    have jp : 0 ≤ (j : Int) * sp := Int.mul_nonneg (by omega) (by omega)
    obtain ⟨f, _, f2, f3, _⟩ := fastest_same mn_ mx_ sp ac d
    have f4 := f3 hF (by omega)
    have f5 := fast_full f4 (by omega)
    subst f5
    have m : mn (v + ac) f = f := by
      unfold mn
      split <;> omega
    rw [ref_step h (by omega) h1 h2 h3 h5 (by omega) f2 f4, m, ref_skip hF j (d - f) f (n + 1) (by omega) (by omega) (by omega) (by omega) (by omega) (by omega) (by omega)]
    congr 1
    · omega
    · push_cast
      omega
theorem steps_same {mn_ mx_ sp ac : Int} (hF : fault mn_ mx_ sp ac = 0) : ∀ (m : Nat) (d v n : Int), d ≤ (m : Int) → d ≤ 68719476735 → 0 ≤ d → 0 ≤ v → v ≤ sp → 0 ≤ n → n + d ≤ 68719476735 →
    ∃ r, slew_Steps.p7 d v n (mn_, mx_, sp, ac) = some (r, 0) ∧ spyref2_Steps.p7 d v n (mn_, mx_, sp, ac) = some (r, 0) := by
  intro m
  have h := fault_ok hF
  have s0 := h.s0
  have s1 := h.s1
  have a0 := h.a0
  have a1 := h.a1
  have zero : ∀ (v n : Int), 0 ≤ v → v ≤ sp → 0 ≤ n → n ≤ 68719476735 → ∃ r, slew_Steps.p7 0 v n (mn_, mx_, sp, ac) = some (r, 0) ∧ spyref2_Steps.p7 0 v n (mn_, mx_, sp, ac) = some (r, 0) := by
    intro v n h1 h2 h3 h4
    have e1 : slew_Steps.p7 0 v n (mn_, mx_, sp, ac) = if decide (v > 0) = true then some (IntKind.i64.wrap (n + 1), 0) else some (n, 0) := by rw [slew_Steps.p7_eq, if_neg (by decide)]
    have e2 : ∀ v n, spyref2_Steps.p7 0 v n (mn_, mx_, sp, ac) = if decide (v > 0) = true then spyref2_Steps.p8 0 v n (mn_, mx_, sp, ac) else some (n, 0) := fun v n => by rw [spyref2_Steps.p7_eq, if_pos (by decide)]
    rw [e1, e2]
    by_cases c : v > 0
    · obtain ⟨f, _, f2, f3, _⟩ := fastest_same mn_ mx_ sp ac 0
      have f4 := fast_zero a0 (f3 hF (Int.le_refl _))
      subst f4
      refine ⟨n + 1, by rw [if_pos (by rw [dt]; exact c), wi (by omega) (by omega)], ?_⟩
      rw [if_pos (by rw [dt]; exact c), spyref2_Steps.p8_eq, f2, bind_some_]
      simp only [dt]
      rw [wi (x := v + ac) (by omega) (by omega), if_neg (by omega), wi (x := n + 1) (by omega) (by omega), wi (x := (0 : Int) - 0) (by omega) (by omega), show (0 : Int) - 0 = 0 from rfl, e2, if_neg (by decide)]
    · exact ⟨n, by rw [if_neg (by rw [dt]; exact c)], by rw [if_neg (by rw [dt]; exact c)]⟩
  induction m with
  | zero =>
    intro d v n h1 _ h2 h3 h4 h5 h6
    obtain rfl : d = 0 := by omega
    exact zero v n h3 h4 h5 (by omega)
  | succ m ih =>
    intro d v n h1 hd2 h2 h3 h4 h5 h6
    by_cases c : d > 0
    · obtain ⟨f, g1, g2, g3, _⟩ := fastest_same mn_ mx_ sp ac d
      have g4 := g3 hF (by omega)
      have g5 : slew_fastest (mn_, mx_, sp, ac) d = some f := by
        obtain ⟨r, hr, hf⟩ := fastest_is h (d := d) (by omega)
        rw [hr, fast_uniq hf g4]
      obtain ⟨p1, p2⟩ := fast_pos a0 (by omega) c g4
      have p3 := g4.r1
      have ml := mn_le (v + ac) f
      obtain ⟨x, hx⟩ : ∃ x, x = mn (v + ac) f := ⟨_, rfl⟩
      have x1 : 1 ≤ x ∧ x ≤ f := by omega
      have st := ref_step h c (by omega) h3 h4 h5 (by omega) g2 g4
      rw [slew_Steps.p7_eq, if_pos (by rw [dt]; exact c), g5, stop_eq h, bind_some_, bind_some_]
      simp only [dt, eq_t]
      rw [if_neg (by omega), wi (x := v + ac) (by omega) (by omega), wi (x := n + 1) (by omega) (by omega)]
      have hx' : (if f < v + ac then f else v + ac) = x := by rw [hx]; rfl
      rw [hx']
      rw [← hx] at st
      rw [wi (x := d - x) (by omega) (by omega)]
      by_cases e : x = sp
      · have fs : f = sp := by omega
        have bd : brk ac 65 sp ≤ d := by have := g4.le; rw [fs] at this; exact this
        have bp := brk_nonneg ac 65 sp
        rw [if_pos e, wi (x := d - brk ac 65 sp) (by omega) (by omega), Int.tdiv_eq_ediv_of_nonneg (by omega)]
        obtain ⟨q, hq⟩ : ∃ q, q = (d - brk ac 65 sp) / sp := ⟨_, rfl⟩
        have q1 : sp * q ≤ d - brk ac 65 sp := by rw [hq]; exact Int.mul_ediv_self_le (by omega)
        have q0 : 0 ≤ q := by rw [hq]; exact Int.ediv_nonneg (by omega) (by omega)
        have q2 : q ≤ sp * q := by
          have := Int.mul_le_mul_of_nonneg_right (a := 1) (b := sp) (c := q) (by omega) q0
          omega
        rw [← hq, wi (x := q) (by omega) (by omega)]
        by_cases qq : q > 1
        · have e1 : (q - 1) * sp = sp * q - sp := by grind
          obtain ⟨j, rfl⟩ := Int.eq_ofNat_of_zero_le q0
          obtain ⟨i, rfl⟩ : ∃ i, j = i + 1 := ⟨j - 1, by omega⟩
          have e2 : ((i + 1 : Nat) : Int) * sp = sp * ((i + 1 : Nat) : Int) := Int.mul_comm _ _
          have e3 : (i : Int) * sp = sp * ((i + 1 : Nat) : Int) - sp := by
            push_cast
            grind
          rw [if_pos qq, wi (x := ((i + 1 : Nat) : Int) - 1) (by omega) (by omega), wi (x := (((i + 1 : Nat) : Int) - 1) * sp) (by omega) (by omega), wi (x := d - (((i + 1 : Nat) : Int) - 1) * sp) (by omega) (by omega), wi (x := d - (((i + 1 : Nat) : Int) - 1) * sp - x) (by omega) (by omega), wi (x := n + (((i + 1 : Nat) : Int) - 1)) (by omega) (by omega), wi (x := n + (((i + 1 : Nat) : Int) - 1) + 1) (by omega) (by omega)]
          rw [ref_skip hF i d v n (by omega) h3 h4 (by omega) h5 (by omega) (by omega), e]
          have r1 : d - (((i + 1 : Nat) : Int) - 1) * sp - sp = d - ((i + 1 : Nat) : Int) * sp := by omega
          have r2 : n + (((i + 1 : Nat) : Int) - 1) + 1 = n + ((i + 1 : Nat) : Int) := by omega
          rw [r1, r2]
          exact ih _ _ _ (by omega) (by omega) (by omega) (by omega) (by omega) (by omega) (by omega)
        · rw [if_neg qq, st]
          exact ih _ _ _ (by omega) (by omega) (by omega) (by omega) (by omega) (by omega) (by omega)
      · rw [if_neg e, st]
        exact ih _ _ _ (by omega) (by omega) (by omega) (by omega) (by omega) (by omega) (by omega)
    · obtain rfl : d = 0 := by omega
      exact zero v n h3 h4 h5 (by omega)
theorem steps_all (mn_ mx_ sp ac a b : Int) : Same (fun _ => True) (slew_Steps (mn_, mx_, sp, ac) a b) (spyref2_Steps (mn_, mx_, sp, ac) a b) := by
  rw [slew_Steps_eq, spyref2_Steps_eq, check_eq, fault_eq, bind_some_, bind_some_, in_eq, in_eq, within_eq, within_eq]
  simp only [bind_some_]
  refine .ite Iff.rfl (fun _ => .mk _ trivial) (fun hF => ?_)
  have hF : fault mn_ mx_ sp ac = 0 := by simpa using hF
  have h := fault_ok hF
  have l0 := h.lo
  have l1 := h.hi
  refine .ite Iff.rfl (fun c1 => .ite Iff.rfl (fun _ => .mk _ trivial) (fun c2 => ?_)) (fun _ => .mk _ trivial)
  rw [not_f, dt] at c1
  rw [not_t, df] at c2
  have c2 := Classical.byContradiction c2
  rw [wi (x := b - a) (by omega) (by omega), abs_eq (b - a) (by omega) (by omega), dist_eq a b (by omega) (by omega) (by omega) (by omega), bind_some_, bind_some_]
  have e : ((a - b).natAbs : Int) = ((b - a).natAbs : Int) := by omega
  rw [e]
  obtain ⟨r, r1, r2⟩ := steps_same hF (b - a).natAbs ((b - a).natAbs : Int) 0 0 (by omega) (by omega) (by omega) (by omega) (by have := h.s0; omega) (by omega) (by omega)
  exact ⟨_, r1, r2, trivial⟩
abbrev Mt : Type := (Int × Int × Int × Int) × (Int × Int × Int × Int) × Int × Int
structure MtOk (m : Mt) : Prop where
  az : fault m.1.1 m.1.2.1 m.1.2.2.1 m.1.2.2.2 = 0
  alt : fault m.2.1.1 m.2.1.2.1 m.2.1.2.2.1 m.2.1.2.2.2 = 0
  p : m.1.1 ≤ m.2.2.1 ∧ m.2.2.1 ≤ m.1.2.1
  q : m.2.1.1 ≤ m.2.2.2 ∧ m.2.2.2 ≤ m.2.1.2.1
theorem mount_all (m : Mt) : Same (fun e => e = 0 → MtOk m) (slew_CheckMount m) (spyref2_MountFault m) := by
  obtain ⟨⟨a0, a1, a2, a3⟩, ⟨b0, b1, b2, b3⟩, p, q⟩ := m
  rw [slew_CheckMount_eq, spyref2_MountFault_eq]
  simp only [check_eq, fault_eq, in_eq, within_eq, bind_some_]
  refine .ite Iff.rfl (fun h => .mk _ (fun k => by rw [ne_t] at h; exact absurd k h)) (fun h1 => .ite Iff.rfl (fun h => .mk _ (fun k => by rw [ne_t] at h; exact absurd k h)) (fun h2 => .ite Iff.rfl (fun h3 => .ite Iff.rfl (fun _ => .mk _ (fun k => by cases k)) (fun h4 => .mk _ fun _ => ?_)) (fun _ => .mk _ (fun k => by cases k))))
  rw [ne_t] at h1 h2
  rw [not_f, dt] at h3
  rw [not_t, df] at h4
  exact ⟨Classical.byContradiction h1, Classical.byContradiction h2, h3, Classical.byContradiction h4⟩
structure ToOk (m : Mt) (fr p : Int × Int) : Prop where
  mo : MtOk m
  f1 : m.1.1 ≤ fr.1 ∧ fr.1 ≤ m.1.2.1
  f2 : m.2.1.1 ≤ fr.2 ∧ fr.2 ≤ m.2.1.2.1
  p1 : m.1.1 ≤ p.1 ∧ p.1 ≤ m.1.2.1
  p2 : m.2.1.1 ≤ p.2 ∧ p.2 ≤ m.2.1.2.1
/-- Poses: the program's answer is the reference's; a pose that is reached lies within the limits. -/
theorem to_all (m : Mt) (fr aim : Int × Int) (w1 : (Lit.int .i64 aim.1).wf = true) (w2 : (Lit.int .i64 aim.2).wf = true) : Same (fun r => r.2.2 = 0 → ToOk m fr r.1) (slew_To m fr aim) (spyref2_To m fr aim) := by
  rw [slew_To_eq, spyref2_To_eq]
  refine (mount_all m).bind fun e he => .ite Iff.rfl (fun h => .mk _ (fun k => by rw [ne_t] at h; exact absurd k h)) (fun h => ?_)
  have hm : MtOk m := he (by simpa using h)
  obtain ⟨⟨a0, a1, a2, a3⟩, ⟨b0, b1, b2, b3⟩, p, q⟩ := m
  obtain ⟨t1, t2, t3, t4⟩ := target_all a0 a1 a2 a3 fr.1 aim.1 w1
  obtain ⟨u1, u2, u3, u4⟩ := target_all b0 b1 b2 b3 fr.2 aim.2 w2
  refine Same.bind (q := fun r => r = t1) ⟨t1, t2, t3, rfl⟩ fun r hr => ?_
  subst hr
  refine .ite Iff.rfl (fun h => .mk _ (fun k => by rw [ne_t] at h; exact absurd k h)) (fun ht => ?_)
  refine Same.bind (q := fun r => r = u1) ⟨u1, u2, u3, rfl⟩ fun s hs => ?_
  subst hs
  refine .ite Iff.rfl (fun h => .mk _ (fun k => by rw [ne_t] at h; exact absurd k h)) (fun hu => ?_)
  refine (steps_all a0 a1 a2 a3 fr.1 r.1).bind fun x _ => (steps_all b0 b1 b2 b3 fr.2 s.1).bind fun y _ => ?_
  have q1 := t4 (by simpa using ht)
  have q2 := u4 (by simpa using hu)
  have ok : ToOk ((a0, a1, a2, a3), (b0, b1, b2, b3), p, q) fr (r.1, s.1) := ⟨hm, ⟨q1.2.1, q1.2.2.1⟩, ⟨q2.2.1, q2.2.2.1⟩, q1.2.2.2, q2.2.2.2⟩
  refine .right (fun c => ?_) (fun c => ?_)
  · rw [dt] at c
    rw [if_pos (by omega)]
    exact .mk _ fun _ => ok
  · rw [dt] at c
    rw [if_neg (by omega)]
    exact .mk _ fun _ => ok

end Go.Proofs.Ytionphbdphbpnaa.Pure
