/- States of axes. -/
import Derived.Test.YtmbjpenjcfkaoaaEA0
import Derived.Test.YtmbjpenjcfkaoaaEA1
import Derived.Test.YtmbjpenjcfkaoaaEA2
import Derived.Test.YtmbjpenjcfkaoaaEA3
import Derived.Test.YtmbjpenjcfkaoaaEA4
import Derived.Test.YtmbjpenjcfkaoaaPl
import Derived.Test.YtmbjpenjcfkaoaaLemAxis
namespace Go.Proofs.Ytmbjpenjcfkaoaa.Pure
set_option linter.unusedVariables false
set_option linter.unusedSimpArgs false
open Go Go.RowKit Go.Proofs.Ytmbjpenjcfkaoaa.Pv Go.Proofs.Ytmbjpenjcfkaoaa.Pl Go.Proofs.Ytmbjpenjcfkaoaa.EA

/-! States of axes: what is wrong with one; one beat. -/
theorem brk_le {A M : Int} (hA : 1 ≤ A) (hM : 0 ≤ M) : ∀ (n : Nat) (v : Int), v ≤ M → brk A n v ≤ (n : Int) * M
  | 0, v, _ => by simp [brk]
  | n + 1, v, h => by
    have ih := brk_le hA hM n (v - A) (by omega)
    have e : ((n + 1 : Nat) : Int) * M = (n : Int) * M + M := by
      push_cast
      grind
    have q : 0 ≤ (n : Int) * M := Int.mul_nonneg (by omega) hM
    unfold brk
    split <;> omega
def stopd (ac v : Int) : Int := brk ac 65 ((if v < 0 then 0 - v else v) - ac)
theorem stopd_in {mn_ mx sp ac v : Int} (h : AxOk mn_ mx sp ac) (h0 : -sp ≤ v) (h1 : v ≤ sp) : 0 ≤ stopd ac v ∧ stopd ac v ≤ 69793218560 := by
  have s1 := h.s1
  have a0 := h.a0
  refine ⟨brk_nonneg _ _ _, ?_⟩
  have := brk_le a0 (M := 1073741824) (by omega) 65 ((if v < 0 then 0 - v else v) - ac) (by split <;> omega)
  unfold stopd
  omega
theorem stop_run {mn_ mx sp A : Int} (a0 : 1 ≤ A) (a1 : A ≤ 1073741824) : ∀ (n : Nat) (v s : Int), n ≤ 100 → v ≤ (n : Int) * A → v ≤ 1073741824 → -1073741824 ≤ v → 0 ≤ s → s ≤ (100 - (n : Int)) * 1073741824 → axis_Stop.p6 v s (mn_, mx, sp, A) = some (s + brk A n v)
  | 0, v, s, _, h1, _, _, _, _ => by
    rw [axis_Stop.p6_eq, if_neg (by rw [dt]; simp at h1; omega)]
    simp [brk]
  | n + 1, v, s, hn, h1, h2, h3, h4, h5 => by
    have e : ((n + 1 : Nat) : Int) * A = (n : Int) * A + A := by
      push_cast
      grind
    rw [axis_Stop.p6_eq]
    simp only [dt]
    unfold brk
    by_cases c : v > 0
    · rw [if_pos c, if_pos c, wi (by omega) (by omega), wi (by omega) (by omega), stop_run a0 a1 n (v - A) (s + v) (by omega) (by omega) (by omega) (by omega) (by omega) (by omega)]
      congr 1
      omega
    · rw [if_neg c, if_neg c]
      congr 1
      omega
theorem stop_same (mn_ mx sp ac v : Int) : ∃ r, axis_Stop (mn_, mx, sp, ac) v = some r ∧ spyref2_StopDistance (mn_, mx, sp, ac) v = some r ∧ (fault mn_ mx sp ac = 0 → -sp ≤ v → v ≤ sp → r = stopd ac v) := by
  rw [axis_Stop_eq, spyref2_StopDistance_eq, check_eq, fault_eq, bind_some_, bind_some_]
  simp only [dt, df, ne_f, ite_not, bind_id]
  by_cases c : fault mn_ mx sp ac = 0
  · obtain ⟨h1, h2, h3, s0, s1, a0, a1, a2⟩ := fault_ok c
    simp only [if_pos c]
    rw [wi (x := 0 - sp) (by omega) (by omega)]
    by_cases q0 : v < 0 - sp
    · exact ⟨0, by rw [if_pos q0], by rw [if_pos q0], fun _ _ _ => by omega⟩
    · rw [if_neg q0, if_neg q0]
      by_cases q1 : v > sp
      · exact ⟨0, by rw [if_pos q1], by rw [if_pos q1], fun _ _ _ => by omega⟩
      · rw [if_neg q1, if_neg q1, wi (x := 0 - v) (by omega) (by omega)]
        by_cases q2 : v < 0
        · rw [if_pos q2, if_pos (by omega), wi (x := 0 - v - ac) (by omega) (by omega), stop_run a0 (by omega) 65 _ 0 (by omega) (by omega) (by omega) (by omega) (by omega) (by omega), braking_eq a0 (by omega) (by omega) (by omega) (by omega)]
          refine ⟨brk ac 65 (0 - v - ac), by congr 1; omega, rfl, fun _ _ _ => ?_⟩
          unfold stopd
          rw [if_pos q2]
        · rw [if_neg q2, if_neg (by omega), wi (x := v - ac) (by omega) (by omega), stop_run a0 (by omega) 65 _ 0 (by omega) (by omega) (by omega) (by omega) (by omega) (by omega), braking_eq a0 (by omega) (by omega) (by omega) (by omega)]
          refine ⟨brk ac 65 (v - ac), by congr 1; omega, rfl, fun _ _ _ => ?_⟩
          unfold stopd
          rw [if_neg q2]
  · simp only [if_neg c]
    exact ⟨0, rfl, rfl, fun q => absurd q c⟩
structure StOk (mn_ mx sp ac p v g : Int) : Prop where
  ax : AxOk mn_ mx sp ac
  p0 : mn_ ≤ p
  p1 : p ≤ mx
  g0 : mn_ ≤ g
  g1 : g ≤ mx
  v0 : -sp ≤ v
  v1 : v ≤ sp
theorem state_same (mn_ mx sp ac p v g : Int) (hlt : Bool) : ∃ e, axis_Check (mn_, mx, sp, ac) (p, v, g, hlt) = some e ∧ spyref2_AxisStateFault (mn_, mx, sp, ac) (p, v, g, hlt) = some e ∧ (e = 0 → fault mn_ mx sp ac = 0 ∧ StOk mn_ mx sp ac p v g) ∧ (fault mn_ mx sp ac ≠ 0 → e = fault mn_ mx sp ac) := by
  rw [axis_Check_eq, spyref2_AxisStateFault_eq, check_eq, fault_eq, bind_some_, bind_some_]
  simp only [ne_t, in_eq, within_eq, bind_some_, not_f, not_t, dt, df, ite_not]
  by_cases c : fault mn_ mx sp ac = 0
  · have ok := fault_ok c
    obtain ⟨h1, h2, h3, s0, s1, a0, a1, a2⟩ := ok
    rw [if_pos c, if_pos c]
    by_cases k1 : mn_ ≤ p ∧ p ≤ mx
    · rw [if_pos k1, if_pos k1]
      by_cases k2 : mn_ ≤ g ∧ g ≤ mx
      · rw [if_pos k2, if_pos k2, wi (x := 0 - sp) (by omega) (by omega)]
        by_cases q0 : v < 0 - sp
        · exact ⟨4, by rw [if_pos q0], by rw [if_pos q0], fun q => by omega, fun q => absurd c q⟩
        · rw [if_neg q0, if_neg q0]
          by_cases q1 : v > sp
          · exact ⟨4, by rw [if_pos q1], by rw [if_pos q1], fun q => by omega, fun q => absurd c q⟩
          · obtain ⟨r, e1, e2, e3⟩ := stop_same mn_ mx sp ac v
            have hr := stopd_in (v := v) ⟨h1, h2, h3, s0, s1, a0, a1, a2⟩ (by omega) (by omega)
            rw [← e3 c (by omega) (by omega)] at hr
            have hst : StOk mn_ mx sp ac p v g := ⟨⟨h1, h2, h3, s0, s1, a0, a1, a2⟩, k1.1, k1.2, k2.1, k2.2, by omega, by omega⟩
            rw [if_neg q1, if_neg q1, e1, e2, bind_some_, bind_some_, bind_some_]
            by_cases q2 : v < 0
            · rw [if_pos q2, if_pos q2, axis_Check.p9_eq, spyref2_AxisStateFault.p9_eq]
              simp only [in_eq, within_eq, bind_some_, not_t, df]
              rw [wi (x := p - r) (by omega) (by omega), wi (x := 0 - r) (by omega) (by omega), wi (x := p + (0 - r)) (by omega) (by omega), show p + (0 - r) = p - r by omega]
              by_cases k3 : mn_ ≤ p - r ∧ p - r ≤ mx
              · exact ⟨0, if_neg (fun q => q k3), if_neg (fun q => q k3), fun _ => ⟨c, hst⟩, fun q => absurd c q⟩
              · exact ⟨16, if_pos k3, if_pos k3, fun _ => ⟨c, hst⟩, fun q => absurd c q⟩
            · rw [if_neg q2, if_neg q2, axis_Check.p9_eq, spyref2_AxisStateFault.p9_eq]
              simp only [in_eq, within_eq, bind_some_, not_t, df]
              rw [wi (x := p + r) (by omega) (by omega)]
              by_cases k3 : mn_ ≤ p + r ∧ p + r ≤ mx
              · exact ⟨0, if_neg (fun q => q k3), if_neg (fun q => q k3), fun _ => ⟨c, hst⟩, fun q => absurd c q⟩
              · exact ⟨16, if_pos k3, if_pos k3, fun _ => ⟨c, hst⟩, fun q => absurd c q⟩
      · rw [if_neg k2, if_neg k2]
        exact ⟨4, rfl, rfl, fun q => by omega, fun q => absurd c q⟩
    · rw [if_neg k1, if_neg k1]
      exact ⟨4, rfl, rfl, fun q => by omega, fun q => absurd c q⟩
  · rw [if_neg c, if_neg c]
    exact ⟨_, rfl, rfl, fun q => absurd q c, fun _ => rfl⟩
/-! One beat. -/
theorem greater_eq (a b : Int) : spyref2_greater a b = some (if a > b then a else b) := by
  rw [spyref2_greater_eq]
  simp only [dt]
  exact ite_eq (fun h => by rw [if_pos h]) (fun h => by rw [if_neg h])
theorem lesser_eq (a b : Int) : spyref2_lesser a b = some (if a < b then a else b) := by
  rw [spyref2_lesser_eq]
  simp only [dt]
  exact ite_eq (fun h => by rw [if_pos h]) (fun h => by rw [if_neg h])
/-- What becomes of a state at speed v. -/
def moved (p v g : Int) (hlt : Bool) : AxS := if hlt = true ∧ v = 0 then (p + v, v, p + v, false) else (p + v, v, g, hlt)
theorem p10_prog {p v g : Int} {hlt : Bool} {b : AxS} (h0 : -34359738368 ≤ p) (h1 : p ≤ 34359738368) (h2 : -34359738368 ≤ v) (h3 : v ≤ 34359738368) : axis_Step.p10 (p, v, g, hlt) b = some (moved p v g hlt) := by
  rw [axis_Step.p10_eq]
  simp only [eq_t]
  rw [wi (x := p + v) (by omega) (by omega)]
  unfold moved
  cases hlt with
  | false => simp
  | true =>
    by_cases c : v = 0
    · simp [c]
    · simp [c]
theorem p10_ref {sg v6 p v0 g : Int} {hlt : Bool} {b : AxS} (hs : sg = 1 ∨ sg = -1) (h0 : -34359738368 ≤ p) (h1 : p ≤ 34359738368) (h2 : -34359738368 ≤ v6) (h3 : v6 ≤ 34359738368) : spyref2_AxisStep.p10 sg v6 (p, v0, g, hlt) b = some (moved p (sg * v6) g hlt) := by
  rw [spyref2_AxisStep.p10_eq]
  simp only [eq_t]
  have hm : sg * v6 = v6 ∨ sg * v6 = 0 - v6 := by rcases hs with rfl | rfl <;> omega
  have hz : v6 = 0 ↔ sg * v6 = 0 := by
    rcases hs with rfl | rfl <;> omega
  rw [wi (x := sg * v6) (by omega) (by omega), wi (x := p + sg * v6) (by omega) (by omega)]
  unfold moved
  cases hlt with
  | false => simp
  | true =>
    by_cases c : sg * v6 = 0
    · rw [if_pos rfl, if_pos (hz.2 c), if_pos ⟨rfl, c⟩]
    · rw [if_pos rfl, if_neg (fun q => c (hz.1 q)), if_neg (fun q => c q.2)]
/-- The speed of the next beat, toward a goal at distance d, at speed w in its direction; f: the greatest speed. -/
def sped (ac w f : Int) : Int :=
  if w < 0 then (if w + ac < 0 then w + ac else 0)
  else if (if w - ac > 0 then w - ac else 0) > (if w + ac < f then w + ac else f) then (if w - ac > 0 then w - ac else 0) else (if w + ac < f then w + ac else f)
theorem sped_in {sp ac w f : Int} (a0 : 1 ≤ ac) (a1 : ac ≤ sp) (w0 : -sp ≤ w) (w1 : w ≤ sp) (f0 : 0 ≤ f) (f1 : f ≤ sp) : -sp ≤ sped ac w f ∧ sped ac w f ≤ sp := by
  unfold sped
  repeat' split
  all_goals omega
theorem next_eq {mn_ mx sp ac d v : Int} (h : AxOk mn_ mx sp ac) (hc : fault mn_ mx sp ac = 0) (v0 : -sp ≤ v) (v1 : v ≤ sp) (hd : 0 ≤ d) : ∃ f, spyref2_Fastest (mn_, mx, sp, ac) d = some f ∧ IsFast sp ac d f ∧ axis_next (mn_, mx, sp, ac) d v = some (sped ac v f) := by
  obtain ⟨h1, h2, h3, s0, s1, a0, a1, a2⟩ := h
  obtain ⟨f, e1, e2, e3, _⟩ := fastest_same mn_ mx sp ac d
  have hf := e3 hc hd
  have f0 := hf.r0
  have f1 := hf.r1
  refine ⟨f, e2, hf, ?_⟩
  rw [axis_next_eq, e1, bind_some_]
  simp only [dt]
  rw [wi (x := v + ac) (by omega) (by omega), wi (x := v - ac) (by omega) (by omega)]
  unfold sped
  refine ite_eq (fun q => ?_) (fun q => ?_)
  · rw [if_pos q]
    congr 1
    split <;> split <;> omega
  · rw [if_neg q]
    congr 1
    repeat' split
    all_goals omega
theorem halted {ac w : Int} : (if w - ac > 0 then w - ac else 0) = (if 0 < w - ac then w - ac else 0) := rfl
/-- The beat, both ways. -/
theorem step_same {mn_ mx sp ac p v g : Int} {hlt : Bool} (h : StOk mn_ mx sp ac p v g) (hc : fault mn_ mx sp ac = 0) (hk : axis_Check (mn_, mx, sp, ac) (p, v, g, hlt) = some 0) : ∃ v', axis_Step (mn_, mx, sp, ac) (p, v, g, hlt) = some (moved p v' g hlt) ∧ spyref2_AxisStep (mn_, mx, sp, ac) (p, v, g, hlt) = some (moved p v' g hlt) ∧ -sp ≤ v' ∧ v' ≤ sp := by
  obtain ⟨ax, p0, p1, g0, g1, v0, v1⟩ := h
  have ax' := ax
  obtain ⟨h1, h2, h3, s0, s1, a0, a1, a2⟩ := ax
  have key : ∀ sg, (sg = 1 ∨ sg = -1) → (hlt = true → 0 ≤ sg * v) → (hlt = false → 0 ≤ sg * (g - p)) → ∃ u, spyref2_AxisStep.p4 sg (mn_, mx, sp, ac) (p, v, g, hlt) (0, 0, 0, false) = some (moved p (sg * u) g hlt) ∧ -sp ≤ u ∧ u ≤ sp ∧ (hlt = true → u = if sg * v - ac > 0 then sg * v - ac else 0) ∧ (hlt = false → ∃ f, axis_next (mn_, mx, sp, ac) (sg * (g - p)) (sg * v) = some (sped ac (sg * v) f) ∧ u = sped ac (sg * v) f) := by
    intro sg hs hq hg
    have hm : sg * v = v ∨ sg * v = 0 - v := by rcases hs with rfl | rfl <;> omega
    have hd : sg * (g - p) = g - p ∨ sg * (g - p) = p - g := by rcases hs with rfl | rfl <;> omega
    rw [spyref2_AxisStep.p4_eq]
    simp only [dt]
    rw [wi (x := sg * v) (by omega) (by omega), wi (x := g - p) (by omega) (by omega), wi (x := sg * (g - p)) (by omega) (by omega)]
    generalize sg * v = w at *
    rw [wi (x := w - ac) (by omega) (by omega), wi (x := w + ac) (by omega) (by omega), greater_eq, lesser_eq, bind_some_, bind_some_, bind_some_]
    cases hlt with
    | true =>
      rw [if_pos rfl, p10_ref hs (by omega) (by omega) (by split <;> omega) (by split <;> omega)]
      exact ⟨_, rfl, by split <;> omega, by split <;> omega, fun _ => rfl, fun q => by cases q⟩
    | false =>
      have hg := hg rfl
      generalize sg * (g - p) = dd at *
      obtain ⟨f, e1, e2, e3⟩ := next_eq ax' hc (d := dd) (v := w) (by omega) (by omega) hg
      have f0 := e2.r0
      have f1 := e2.r1
      have hin := sped_in (w := w) a0 a1 (by omega) (by omega) f0 f1
      rw [if_neg (by simp), e1, bind_some_, lesser_eq, bind_some_, greater_eq, bind_some_]
      refine ⟨sped ac w f, ?_, hin.1, hin.2, fun q => (by cases q), fun _ => ⟨f, e3, rfl⟩⟩
      unfold sped at hin ⊢
      by_cases q : w < 0
      · rw [if_pos q] at hin ⊢
        rw [if_pos q, p10_ref hs (by omega) (by omega) (by split <;> omega) (by split <;> omega)]
      · rw [if_neg q] at hin ⊢
        rw [if_neg q, p10_ref hs (by omega) (by omega) (by omega) (by omega)]
  rw [axis_Step_eq, hk, bind_some_, if_neg (by simp), spyref2_AxisStep_eq]
  simp only [dt, df, not_t, ite_not, spyref2_AxisStep.p3_eq]
  cases hlt with
  | true =>
    simp only [if_true, Bool.true_eq_false, if_false]
    by_cases q : v < 0
    · obtain ⟨u, e1, e2, e3, e4, _⟩ := key (-1) (.inr rfl) (fun _ => by omega) (fun q => by cases q)
      have e4 := e4 rfl
      rw [if_pos q, if_neg (by omega), e1, axis_Step.p6_eq]
      simp only [if_true]
      rw [wi (x := v + ac) (by omega) (by omega), p10_prog (by omega) (by omega) (by split <;> omega) (by split <;> omega)]
      have : (if 0 < v + ac then 0 else v + ac) = -1 * u := by rw [e4]; split <;> split <;> omega
      rw [this]
      exact ⟨-1 * u, rfl, rfl, by omega, by omega⟩
    · obtain ⟨u, e1, e2, e3, e4, _⟩ := key 1 (.inl rfl) (fun _ => by omega) (fun q => by cases q)
      have e4 := e4 rfl
      rw [if_neg q, e1]
      by_cases q1 : v > 0
      · rw [if_pos q1, wi (x := v - ac) (by omega) (by omega), p10_prog (by omega) (by omega) (by split <;> omega) (by split <;> omega)]
        have : (if v - ac < 0 then 0 else v - ac) = 1 * u := by rw [e4]; split <;> split <;> omega
        rw [this]
        exact ⟨1 * u, rfl, rfl, by omega, by omega⟩
      · rw [if_neg q1, axis_Step.p6_eq]
        simp only [if_true]
        rw [wi (x := v + ac) (by omega) (by omega), p10_prog (by omega) (by omega) (by split <;> omega) (by split <;> omega)]
        have : (if 0 < v + ac then 0 else v + ac) = 1 * u := by rw [e4]; split <;> split <;> omega
        rw [this]
        exact ⟨1 * u, rfl, rfl, by omega, by omega⟩
  | false =>
    simp only [Bool.false_eq_true, if_false, if_true]
    rw [axis_Step.p6_eq]
    simp only [dt, Bool.false_eq_true, if_false]
    by_cases q : g < p
    · obtain ⟨u, e1, e2, e3, _, e4⟩ := key (-1) (.inr rfl) (fun q => by cases q) (fun _ => by omega)
      obtain ⟨f, e5, e6⟩ := e4 rfl
      rw [show (-1) * (g - p) = p - g by omega, show -1 * v = 0 - v by omega] at e5
      rw [if_pos q, if_neg (by omega), e1, wi (x := p - g) (by omega) (by omega), wi (x := 0 - v) (by omega) (by omega), e5, bind_some_]
      rw [show -1 * v = 0 - v by omega] at e6
      rw [← e6, wi (x := 0 - u) (by omega) (by omega), p10_prog (by omega) (by omega) (by omega) (by omega), show 0 - u = -1 * u by omega]
      exact ⟨-1 * u, rfl, rfl, by omega, by omega⟩
    · obtain ⟨u, e1, e2, e3, _, e4⟩ := key 1 (.inl rfl) (fun q => by cases q) (fun _ => by omega)
      obtain ⟨f, e5, e6⟩ := e4 rfl
      rw [Int.one_mul, Int.one_mul] at e5
      rw [Int.one_mul] at e6
      rw [if_neg q, if_pos (by omega), e1, wi (x := g - p) (by omega) (by omega), e5, bind_some_, ← e6, p10_prog (by omega) (by omega) (by omega) (by omega), Int.one_mul]
      exact ⟨u, rfl, rfl, by omega, by omega⟩
theorem rest_eq (p v g : Int) (hlt : Bool) : axis_Resting (p, v, g, hlt) = some (decide (v = 0 ∧ p = g) && !hlt) ∧ spyref2_Rests (p, v, g, hlt) = some (decide (v = 0 ∧ p = g) && !hlt) := by
  rw [axis_Resting_eq, spyref2_Rests_eq]
  simp only [eq_t]
  by_cases a : v = 0
  · by_cases b : p = g
    · simp [a, b]
    · have : ¬ g = p := fun q => b q.symm
      simp [a, b, this]
  · simp [a]

end Go.Proofs.Ytmbjpenjcfkaoaa.Pure
