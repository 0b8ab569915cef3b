/- Axes. -/
import Derived.Test.YtmbjpenjcfkaoaaEA0
import Derived.Test.YtmbjpenjcfkaoaaEA1
import Derived.Test.YtmbjpenjcfkaoaaEA2
import Derived.Test.YtmbjpenjcfkaoaaEA3
import Derived.Test.YtmbjpenjcfkaoaaEA4
import Derived.Test.YtmbjpenjcfkaoaaPl
namespace Go.Proofs.Ytmbjpenjcfkaoaa.Pure
set_option linter.unusedVariables false
set_option linter.unusedSimpArgs false
open Go Go.RowKit Go.Proofs.Ytmbjpenjcfkaoaa.Pv Go.Proofs.Ytmbjpenjcfkaoaa.Pl Go.Proofs.Ytmbjpenjcfkaoaa.EA

/-! Axes: what is wrong with one. -/
abbrev Ax := Int × Int × Int × Int
abbrev AxS := Int × Int × Int × Bool
def fault (mn mx sp ac : Int) : Int :=
  if mn < -17179869184 ∨ mx > 17179869184 then 4 else if mn > mx then 11 else if sp < 16777216 ∨ sp > 1073741824 ∨ ac > sp ∨ ac < 1 ∨ ac * 64 < sp then 4 else 0
structure AxOk (mn mx sp ac : Int) : Prop where
  lo : -17179869184 ≤ mn
  hi : mx ≤ 17179869184
  le : mn ≤ mx
  s0 : 16777216 ≤ sp
  s1 : sp ≤ 1073741824
  a0 : 1 ≤ ac
  a1 : ac ≤ sp
  a2 : sp ≤ 64 * ac
theorem fault_ok {mn mx sp ac : Int} (h : fault mn mx sp ac = 0) : AxOk mn mx sp ac := by
  unfold fault at h
  split at h
  · cases h
  · split at h
    · cases h
    · split at h
      · cases h
      · exact ⟨by omega, by omega, by omega, by omega, by omega, by omega, by omega, by omega⟩
theorem f4a {mn mx sp ac : Int} (h : mn < -17179869184 ∨ mx > 17179869184) : some 4 = some (fault mn mx sp ac) := by rw [fault, if_pos h]
theorem f11 {mn mx sp ac : Int} (h : ¬ (mn < -17179869184 ∨ mx > 17179869184)) (k : mn > mx) : some 11 = some (fault mn mx sp ac) := by rw [fault, if_neg h, if_pos k]
theorem f4b {mn mx sp ac : Int} (h : ¬ (mn < -17179869184 ∨ mx > 17179869184)) (k : ¬ mn > mx) (l : sp < 16777216 ∨ sp > 1073741824 ∨ ac > sp ∨ ac < 1 ∨ ac * 64 < sp) : some 4 = some (fault mn mx sp ac) := by rw [fault, if_neg h, if_neg k, if_pos l]
theorem f0 {mn mx sp ac : Int} (h : ¬ (mn < -17179869184 ∨ mx > 17179869184)) (k : ¬ mn > mx) (l : ¬ (sp < 16777216 ∨ sp > 1073741824 ∨ ac > sp ∨ ac < 1 ∨ ac * 64 < sp)) : some 0 = some (fault mn mx sp ac) := by rw [fault, if_neg h, if_neg k, if_neg l]
theorem check_eq (mn mx sp ac : Int) : slew_CheckAxis (mn, mx, sp, ac) = some (fault mn mx sp ac) := by
  simp only [slew_CheckAxis_eq, dt, df, ite_not]
  repeat' (refine ite_eq (fun _ => ?_) (fun _ => ?_))
  all_goals first
    | exact f4a (by omega)
    | exact f11 (by omega) (by omega)
    | exact f4b (by omega) (by omega) (by omega)
    | (have := wi (x := ac * 64) (by omega) (by omega); first | exact f4b (by omega) (by omega) (by omega) | exact f0 (by omega) (by omega) (by omega))
theorem fault_eq (mn mx sp ac : Int) : spyref2_AxisFault (mn, mx, sp, ac) = some (fault mn mx sp ac) := by
  simp only [spyref2_AxisFault_eq, dt, df, ite_not]
  repeat' (refine ite_eq (fun _ => ?_) (fun _ => ?_))
  all_goals first
    | exact f4a (by omega)
    | exact f11 (by omega) (by omega)
    | exact f4b (by omega) (by omega) (by omega)
    | (have := wi (x := 64 * ac) (by omega) (by omega); first | exact f4b (by omega) (by omega) (by omega) | exact f0 (by omega) (by omega) (by omega))
theorem in_eq (mn mx sp ac p : Int) : slew_In (mn, mx, sp, ac) p = some (decide (mn ≤ p ∧ p ≤ mx)) := by
  simp only [slew_In_eq, dt]
  refine ite_eq (fun h => ?_) (fun h => ?_)
  · simp [h]
  · simp [h]
theorem within_eq (mn mx sp ac p : Int) : spyref2_Within (mn, mx, sp, ac) p = some (decide (mn ≤ p ∧ p ≤ mx)) := by
  simp only [spyref2_Within_eq, dt]
  refine ite_eq (fun h => ?_) (fun h => ?_)
  · simp only [show mn ≤ p from h, true_and]
  · simp only [show ¬ mn ≤ p from h, false_and, decide_false]
def mn (a b : Int) : Int := if b < a then b else a
/-! The braking distance, and the greatest speed. -/
def sk : Nat → Int
  | 0 => 0
  | k + 1 => sk k + k
def brk (A : Int) : Nat → Int → Int
  | 0, _ => 0
  | n + 1, v => if v > 0 then v + brk A n (v - A) else 0
theorem brk_nonneg (A : Int) : ∀ (n : Nat) (v : Int), 0 ≤ brk A n v
  | 0, _ => Int.le_refl _
  | n + 1, v => by
    unfold brk
    split
    · have := brk_nonneg A n (v - A)
      omega
    · exact Int.le_refl _
theorem brk_mono (A : Int) : ∀ (n : Nat) (v v' : Int), v ≤ v' → brk A n v ≤ brk A n v'
  | 0, _, _, _ => Int.le_refl _
  | n + 1, v, v', h => by
    unfold brk
    have := brk_mono A n (v - A) (v' - A) (by omega)
    have := brk_nonneg A n (v' - A)
    split <;> split <;> omega
theorem brk_lower (A : Int) (hA : 1 ≤ A) : ∀ (n k : Nat) (v : Int), k ≤ n → (k : Int) * v - A * sk k ≤ brk A n v
  | n, 0, v, _ => by
    have := brk_nonneg A n v
    simp [sk]
    omega
  | 0, k + 1, v, h => by omega
  | n + 1, k + 1, v, h => by
    have ih := brk_lower A hA n k (v - A) (by omega)
    have e : ((k + 1 : Nat) : Int) * v - A * sk (k + 1) = v + ((k : Int) * (v - A) - A * sk k) := by
      simp only [sk]
      push_cast
      grind
    unfold brk
    split
    · omega
    · rename_i hv
      have h1 : ((k + 1 : Nat) : Int) * v ≤ 0 := Int.mul_nonpos_of_nonneg_of_nonpos (by omega) (by omega)
      have h2 : 0 ≤ sk (k + 1) := by
        clear ih e h h1
        have : ∀ j, 0 ≤ sk j := fun j => by
          induction j with
          | zero => exact Int.le_refl _
          | succ j ih => simp only [sk]; omega
        exact this _
      have h3 : 0 ≤ A * sk (k + 1) := Int.mul_nonneg (by omega) h2
      omega
theorem sk_nonneg : ∀ k, 0 ≤ sk k
  | 0 => Int.le_refl _
  | k + 1 => by
    have := sk_nonneg k
    simp only [sk]
    omega
theorem brk_eq (A : Int) (hA : 1 ≤ A) : ∀ (n k : Nat) (v : Int), k ≤ n → ((k : Int) - 1) * A ≤ v → v ≤ (k : Int) * A → 0 ≤ v → brk A n v = (k : Int) * v - A * sk k
  | n, 0, v, _, _, h1, h0 => by
    have hv : v = 0 := by
      have : ((0 : Nat) : Int) * A = 0 := by simp
      omega
    subst hv
    cases n <;> simp [brk, sk]
  | 0, k + 1, v, h, _, _, _ => by omega
  | n + 1, k + 1, v, h, hl, hu, h0 => by
    have e : ((k + 1 : Nat) : Int) * v - A * sk (k + 1) = v + ((k : Int) * (v - A) - A * sk k) := by
      simp only [sk]
      push_cast
      grind
    have hl' : ((k : Int)) * A ≤ v := by
      have : (((k + 1 : Nat) : Int) - 1) * A = (k : Int) * A := by
        push_cast
        grind
      omega
    have hu' : v ≤ (k : Int) * A + A := by
      have : ((k + 1 : Nat) : Int) * A = (k : Int) * A + A := by
        push_cast
        grind
      omega
    have hm : ((k : Int) - 1) * A = (k : Int) * A - A := by grind
    rw [e]
    unfold brk
    by_cases hv : v > 0
    · rw [if_pos hv]
      by_cases hk : k = 0
      · subst hk
        have : brk A n (v - A) = 0 := by
          cases n with
          | zero => rfl
          | succ n =>
            unfold brk
            rw [if_neg (by omega)]
        rw [this]
        simp [sk]
      · by_cases hva : 0 ≤ v - A
        · rw [brk_eq A hA n k (v - A) (by omega) (by omega) (by omega) hva]
        · exfalso
          have : A ≤ (k : Int) * A := by
            have h2 : (1 : Int) * A ≤ (k : Int) * A := Int.mul_le_mul_of_nonneg_right (by omega) (by omega)
            omega
          omega
    · have hv0 : v = 0 := by omega
      subst hv0
      rw [if_neg (by omega)]
      have hk : k = 0 := by
        by_cases hk : k = 0
        · exact hk
        · exfalso
          have h2 : (1 : Int) * A ≤ (k : Int) * A := Int.mul_le_mul_of_nonneg_right (by omega) (by omega)
          omega
      subst hk
      simp [sk]
/-- The greatest speed, at most S, whose braking distance is at most d. -/
structure IsFast (S A d r : Int) : Prop where
  r0 : 0 ≤ r
  r1 : r ≤ S
  le : brk A 65 r ≤ d
  gt : r = S ∨ d < brk A 65 (r + 1)
theorem fast_uniq {S A d r r' : Int} (h : IsFast S A d r) (h' : IsFast S A d r') : r = r' := by
  obtain ⟨a0, a1, a2, a3⟩ := h
  obtain ⟨b0, b1, b2, b3⟩ := h'
  rcases Int.lt_trichotomy r r' with c | c | c
  · have := brk_mono A 65 (r + 1) r' (by omega)
    omega
  · exact c
  · have := brk_mono A 65 (r' + 1) r (by omega)
    omega
theorem sk_two : ∀ k : Nat, 2 * sk k = (k : Int) * ((k : Int) - 1)
  | 0 => rfl
  | k + 1 => by
    have ih := sk_two k
    simp only [sk]
    push_cast
    grind
theorem sk_tdiv (k : Nat) : Int.tdiv ((k : Int) * ((k : Int) - 1)) 2 = sk k := by
  rw [← sk_two k, Int.tdiv_eq_ediv_of_nonneg (by have := sk_nonneg k; omega)]
  omega
theorem sk_mono {j k : Nat} (h : j ≤ k) : sk j ≤ sk k := by
  induction k with
  | zero =>
    obtain rfl : j = 0 := by omega
    exact Int.le_refl _
  | succ k ih =>
    by_cases e : j = k + 1
    · subst e
      exact Int.le_refl _
    · have := ih (by omega)
      simp only [sk]
      omega
theorem ask_bound {A : Int} (h0 : 1 ≤ A) (h1 : A ≤ 1073741824) {k : Nat} (hk : k ≤ 66) : 0 ≤ A * sk k ∧ A * sk k ≤ 2303229231104 := by
  have a := sk_nonneg k
  have b : sk k ≤ 2145 := by
    have := sk_mono (j := k) (k := 66) hk
    have e : sk 66 = 2145 := by decide +kernel
    omega
  refine ⟨Int.mul_nonneg (by omega) a, ?_⟩
  have := Int.mul_le_mul h1 b a (by omega : (0 : Int) ≤ 1073741824)
  omega
theorem mn_le (a b : Int) : mn a b ≤ a ∧ mn a b ≤ b ∧ (mn a b = a ∨ mn a b = b) := by
  unfold mn
  split <;> omega
theorem fast_hit {S A d : Int} (a0 : 1 ≤ A) {k : Nat} (h1 : 1 ≤ k) (h2 : k ≤ 65) (hlo : A * sk k ≤ d) (hhi : d ≤ A * sk (k + 1)) (hd : 0 ≤ d) (hS : 0 ≤ S) :
    IsFast S A d (mn S ((d + A * sk k) / (k : Int))) ∧ 0 ≤ (d + A * sk k) / (k : Int) ∧ (d + A * sk k) / (k : Int) ≤ (k : Int) * A := by
  obtain ⟨q, hq⟩ : ∃ q, q = (d + A * sk k) / (k : Int) := ⟨_, rfl⟩
  have kp : (0 : Int) < k := by omega
  have ap : 0 ≤ A * sk k := Int.mul_nonneg (by omega) (sk_nonneg k)
  have q1 : (k : Int) * q ≤ d + A * sk k := by rw [hq]; exact Int.mul_ediv_self_le (by omega)
  have q2 : d + A * sk k < (k : Int) * q + k := by
    have := Int.lt_mul_ediv_self_add (x := d + A * sk k) (k := (k : Int)) kp
    rw [← hq] at this
    exact this
  have q0 : 0 ≤ q := by rw [hq]; exact Int.ediv_nonneg (by omega) (by omega)
  rw [← hq]
  clear hq
  have s2 := sk_two k
  have g5 : sk (k + 1) = sk k + k := rfl
  have e1 : A * sk (k + 1) = A * sk k + A * k := by rw [g5]; grind
  have u : q ≤ (k : Int) * A := by
    apply Int.le_of_mul_le_mul_left (a := (k : Int)) _ kp
    have : (k : Int) * ((k : Int) * A) = 2 * (A * sk k) + A * k := by grind
    omega
  have l : ((k : Int) - 1) * A ≤ q := by
    have e3 : (k : Int) * (((k : Int) - 1) * A) = 2 * (A * sk k) := by grind
    have e4 : (k : Int) * (q + 1) = (k : Int) * q + k := by grind
    have : (k : Int) * (((k : Int) - 1) * A) < (k : Int) * (q + 1) := by omega
    have := Int.lt_of_mul_lt_mul_left this (by omega)
    omega
  have f1 := brk_eq A a0 65 k q (by omega) l u q0
  have f2 := brk_lower A a0 65 k (q + 1) (by omega)
  have f3 : (k : Int) * (q + 1) = (k : Int) * q + k := by grind
  have m := mn_le S q
  refine ⟨⟨by omega, m.1, ?_, ?_⟩, q0, u⟩
  · have := brk_mono A 65 (mn S q) q m.2.1
    omega
  · rcases m.2.2 with m | m
    · exact Or.inl m
    · rw [m]
      exact Or.inr (by omega)
theorem tri_up {k : Nat} (hk : k ≤ 65) : IntKind.i64.wrap (Int.tdiv (IntKind.i64.wrap ((k : Int) * IntKind.i64.wrap ((k : Int) + 1))) 2) = sk (k + 1) := by
  have e : (k : Int) * ((k : Int) + 1) = ((k + 1 : Nat) : Int) * (((k + 1 : Nat) : Int) - 1) := by
    push_cast
    grind
  have c : (k : Int) * ((k : Int) + 1) ≤ 65 * 66 := Int.mul_le_mul (by omega) (by omega) (by omega) (by omega)
  have c0 : 0 ≤ (k : Int) * ((k : Int) + 1) := Int.mul_nonneg (by omega) (by omega)
  have g := sk_tdiv (k + 1)
  have g0 := sk_nonneg (k + 1)
  have s2 := sk_two (k + 1)
  rw [wi (x := (k : Int) + 1) (by omega) (by omega), wi (x := (k : Int) * ((k : Int) + 1)) (by omega) (by omega), e, g, wi (by omega) (by omega)]
theorem tri_down {k : Nat} (h1 : 1 ≤ k) (hk : k ≤ 65) : IntKind.i64.wrap (Int.tdiv (IntKind.i64.wrap ((k : Int) * IntKind.i64.wrap ((k : Int) - 1))) 2) = sk k := by
  have c : (k : Int) * ((k : Int) - 1) ≤ 65 * 66 := Int.mul_le_mul (by omega) (by omega) (by omega) (by omega)
  have c0 : 0 ≤ (k : Int) * ((k : Int) - 1) := Int.mul_nonneg (by omega) (by omega)
  have g := sk_tdiv k
  have g0 := sk_nonneg k
  have s2 := sk_two k
  rw [wi (x := (k : Int) - 1) (by omega) (by omega), wi (x := (k : Int) * ((k : Int) - 1)) (by omega) (by omega), g, wi (by omega) (by omega)]
theorem fast_end {mn_ mx sp ac d : Int} (h : AxOk mn_ mx sp ac) (hlt : ac * sk 65 < d) : IsFast sp ac d sp := by
  obtain ⟨_, _, _, s0, s1, a0, a1, a2⟩ := h
  have e : sk 65 = 2080 := by decide +kernel
  have e2 : sk 64 = 2016 := by decide +kernel
  rw [e] at hlt
  have m := brk_mono ac 65 sp (64 * ac) (by omega)
  have q := brk_eq ac a0 65 64 (64 * ac) (by omega) (by omega) (by omega) (by omega)
  rw [e2] at q
  exact ⟨by omega, Int.le_refl _, by omega, Or.inl rfl⟩
theorem fast_loop {mn_ mx sp ac d : Int} (h : AxOk mn_ mx sp ac) (hd : 0 ≤ d) : ∀ (n k : Nat), k + n = 65 → 1 ≤ k → ac * sk k < d ∨ k = 1 → ∃ r, slew_fastest.p2 d (k : Int) (mn_, mx, sp, ac) = some r ∧ IsFast sp ac d r
  | 0, k, hk, _, hlt => by
    obtain rfl : k = 65 := by omega
    exact ⟨sp, by rw [slew_fastest.p2_eq]; simp only [dt]; rw [if_neg (by omega)], fast_end h (by omega)⟩
  | n + 1, k, hk, h1, hlt => by
    have s0 := h.s0
    have s1 := h.s1
    have a0 := h.a0
    have a1 := h.a1
    have b1 := ask_bound (A := ac) a0 (by omega) (k := k + 1) (by omega)
    have b0 := ask_bound (A := ac) a0 (by omega) (k := k) (by omega)
    rw [slew_fastest.p2_eq]
    simp only [dt]
    rw [if_pos (by omega), tri_up (by omega), tri_down h1 (by omega), wi (x := ac * sk (k + 1)) (by omega) (by omega), wi (x := ac * sk k) (by omega) (by omega)]
    by_cases c : d ≤ ac * sk (k + 1)
    · have hlo : ac * sk k ≤ d := by
        rcases hlt with hlt | rfl
        · omega
        · simp [sk]; exact hd
      obtain ⟨f, q0, u⟩ := fast_hit (S := sp) a0 h1 (by omega) hlo c hd (by omega)
      have u2 : (k : Int) * ac ≤ 65 * 1073741824 := Int.mul_le_mul (by omega) (by omega) (by omega) (by omega)
      have kn : ¬ (k : Int) = 0 := by omega
      rw [if_pos c, if_neg kn, wi (x := d + ac * sk k) (by omega) (by omega), Int.tdiv_eq_ediv_of_nonneg (by omega), wi (by omega) (by omega)]
      exact ⟨_, rfl, f⟩
    · rw [if_neg c, wi_nat (i := k) (by omega)]
      exact fast_loop h hd n (k + 1) (by omega) (by omega) (Or.inl (by omega))
theorem fastest_is {mn_ mx sp ac d : Int} (h : AxOk mn_ mx sp ac) (hd : 0 ≤ d) : ∃ r, slew_fastest (mn_, mx, sp, ac) d = some r ∧ IsFast sp ac d r := by
  rw [slew_fastest_eq]
  exact fast_loop h hd 64 1 rfl (by omega) (Or.inr rfl)
theorem braking_l0 {A : Int} (a0 : 1 ≤ A) (a1 : A ≤ 1073741824) : ∀ (n : Nat) (v s : Int), n ≤ 100 → v ≤ (n : Int) * A → v ≤ 1073741824 → -1073741824 ≤ v → 0 ≤ s → s ≤ (100 - (n : Int)) * 1073741824 → spyref2_Braking.p2 A v s = some (s + brk A n v)
  | 0, v, s, _, h1, _, _, _, _ => by
    rw [spyref2_Braking.p2_eq, if_neg (by rw [dt]; simp at h1; omega)]
    simp [brk]
  | n + 1, v, s, hn, h1, h2, h3, h4, h5 => by
    have e : ((n + 1 : Nat) : Int) * A = (n : Int) * A + A := by
      push_cast
      grind
    rw [spyref2_Braking.p2_eq]
    simp only [dt]
    unfold brk
    by_cases c : v > 0
    · rw [if_pos c, if_pos c, wi (by omega) (by omega), wi (by omega) (by omega), braking_l0 a0 a1 n (v - A) (s + v) (by omega) (by omega) (by omega) (by omega) (by omega) (by omega)]
      congr 1
      omega
    · rw [if_neg c, if_neg c]
      congr 1
      omega
theorem braking_eq {A : Int} (a0 : 1 ≤ A) (a1 : A ≤ 1073741824) {v : Int} (h : v ≤ 65 * A) (h1 : v ≤ 1073741824) (h2 : -1073741824 ≤ v) : spyref2_Braking A v = some (brk A 65 v) := by
  rw [spyref2_Braking_eq, braking_l0 a0 a1 65 v 0 (by omega) (by omega) h1 h2 (by omega) (by omega)]
  congr 1
  omega
theorem search_fast {mn_ mx sp ac d : Int} (h : AxOk mn_ mx sp ac) : ∀ (n : Nat) (lo hi : Int), hi - lo ≤ (n : Int) → 0 ≤ lo → lo ≤ hi → hi ≤ sp → brk ac 65 lo ≤ d → (hi = sp ∨ d < brk ac 65 (hi + 1)) →
    ∃ r, spyref2_Fastest.p6 d lo hi (mn_, mx, sp, ac) = some r ∧ IsFast sp ac d r := by
  intro n
  have s1 := h.s1
  have a0 := h.a0
  have a1 := h.a1
  have a2 := h.a2
  induction n with
  | zero =>
    intro lo hi h1 h2 h3 h4 h5 h6
    obtain rfl : lo = hi := by omega
    exact ⟨lo, by rw [spyref2_Fastest.p6_eq, if_neg (by rw [dt]; omega)], h2, h4, h5, h6⟩
  | succ n ih =>
    intro lo hi h1 h2 h3 h4 h5 h6
    by_cases c : lo < hi
    · obtain ⟨m, hm⟩ : ∃ m, m = (lo + hi + 1) / 2 := ⟨_, rfl⟩
      have e : IntKind.i64.wrap (Int.tdiv (IntKind.i64.wrap (IntKind.i64.wrap (lo + hi) + 1)) 2) = m := by
        rw [wi (x := lo + hi) (by omega) (by omega), wi (x := lo + hi + 1) (by omega) (by omega), Int.tdiv_eq_ediv_of_nonneg (by omega), ← hm, wi (by omega) (by omega)]
      have e2 : IntKind.i64.wrap (m - 1) = m - 1 := wi (by omega) (by omega)
      rw [spyref2_Fastest.p6_eq, if_pos (by rw [dt]; exact c), e, e2, braking_eq a0 (by omega) (by omega) (by omega) (by omega), bind_some_]
      simp only [dt]
      by_cases q : brk ac 65 m ≤ d
      · rw [if_pos q]
        exact ih m hi (by omega) (by omega) (by omega) h4 q h6
      · rw [if_neg q]
        exact ih lo (m - 1) (by omega) h2 (by omega) (by omega) h5 (Or.inr (by rw [Int.sub_add_cancel]; omega))
    · exact ⟨lo, by rw [spyref2_Fastest.p6_eq, if_neg (by rw [dt]; exact c)], h2, by omega, h5, by
        obtain rfl : lo = hi := by omega
        exact h6⟩
theorem brk_zero (A : Int) : brk A 65 0 = 0 := rfl
theorem reffast_is {mn_ mx sp ac d : Int} (h : AxOk mn_ mx sp ac) (hd : 0 ≤ d) : ∃ r, ((spyref2_Braking ac sp).bind fun r1 => if r1 ≤ d then some sp else spyref2_Fastest.p6 d 0 sp (mn_, mx, sp, ac)) = some r ∧ IsFast sp ac d r := by
  have s0 := h.s0
  have s1 := h.s1
  have a0 := h.a0
  have a1 := h.a1
  have a2 := h.a2
  rw [braking_eq a0 (by omega) (by omega) (by omega) (by omega), bind_some_]
  by_cases q : brk ac 65 sp ≤ d
  · exact ⟨sp, by rw [if_pos q], by omega, Int.le_refl _, q, Or.inl rfl⟩
  · obtain ⟨r, h1, h2⟩ := search_fast h (d := d) sp.toNat 0 sp (by omega) (by omega) (by omega) (by omega) (by rw [brk_zero]; exact hd) (Or.inl rfl)
    exact ⟨r, by rw [if_neg q, h1], h2⟩
/-- Both greatest speeds are one, for whatever axis. -/
theorem fastest_same (mn_ mx sp ac d : Int) : ∃ r, slew_Fastest (mn_, mx, sp, ac) d = some r ∧ spyref2_Fastest (mn_, mx, sp, ac) d = some r ∧ (fault mn_ mx sp ac = 0 → 0 ≤ d → IsFast sp ac d r) ∧ (fault mn_ mx sp ac ≠ 0 ∨ d < 0 → r = 0) := by
  rw [slew_Fastest_eq, spyref2_Fastest_eq, check_eq, fault_eq, bind_some_, bind_some_]
  simp only [dt, ne_f, bind_id]
  by_cases c : fault mn_ mx sp ac = 0
  · simp only [if_pos c]
    by_cases hd : d < 0
    · exact ⟨0, by rw [if_pos hd], by rw [if_pos hd], fun _ h => by omega, fun _ => rfl⟩
    · obtain ⟨r, h1, h2⟩ := fastest_is (fault_ok c) (d := d) (by omega)
      obtain ⟨r', h1', h2'⟩ := reffast_is (fault_ok c) (d := d) (by omega)
      obtain rfl := fast_uniq h2 h2'
      exact ⟨r, by rw [if_neg hd, h1], by rw [if_neg hd]; exact h1', fun _ _ => h2, fun q => by rcases q with q | q <;> omega⟩
  · simp only [if_neg c]
    exact ⟨0, rfl, rfl, fun h => absurd h c, fun _ => rfl⟩

end Go.Proofs.Ytmbjpenjcfkaoaa.Pure
