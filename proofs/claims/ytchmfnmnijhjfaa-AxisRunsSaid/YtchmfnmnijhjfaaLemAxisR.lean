/- A beat of a valid state gives a valid state. -/
import Derived.Test.YtchmfnmnijhjfaaEA0
import Derived.Test.YtchmfnmnijhjfaaEA1
import Derived.Test.YtchmfnmnijhjfaaEA2
import Derived.Test.YtchmfnmnijhjfaaEA3
import Derived.Test.YtchmfnmnijhjfaaPl
import Derived.Test.YtchmfnmnijhjfaaLemAxis
import Derived.Test.YtchmfnmnijhjfaaLemAxisS
namespace Go.Proofs.Ytchmfnmnijhjfaa.Pure
set_option linter.unusedVariables false
set_option linter.unusedSimpArgs false
open Go Go.RowKit Go.Proofs.Ytchmfnmnijhjfaa.Pv Go.Proofs.Ytchmfnmnijhjfaa.Pl Go.Proofs.Ytchmfnmnijhjfaa.EA

/-! A beat of a valid state gives a valid state. -/
/-- What the next speed is, in the direction sg. -/
def NextIs (sp ac p v g : Int) (hlt : Bool) (v' : Int) : Prop := ∃ sg, (sg = 1 ∨ sg = -1) ∧ (hlt = true → 0 ≤ sg * v ∧ sg * v' = if sg * v - ac > 0 then sg * v - ac else 0) ∧ (hlt = false → 0 ≤ sg * (g - p) ∧ ∃ f, IsFast sp ac (sg * (g - p)) f ∧ sg * v' = sped ac (sg * v) f)
/-- The beat, both ways, and what the next speed is. -/
theorem step_more {mn_ mx sp ac p v g : Int} {hlt : Bool} (h : StOk mn_ mx sp ac p v g) (hc : fault mn_ mx sp ac = 0) (hk : axis_Check (mn_, mx, sp, ac) (p, v, g, hlt) = some 0) : ∃ v', axis_Step (mn_, mx, sp, ac) (p, v, g, hlt) = some (moved p v' g hlt) ∧ spyref2_AxisStep (mn_, mx, sp, ac) (p, v, g, hlt) = some (moved p v' g hlt) ∧ -sp ≤ v' ∧ v' ≤ sp ∧ NextIs sp ac p v g hlt v' := by
  obtain ⟨ax, p0, p1, g0, g1, v0, v1⟩ := h
  have ax' := ax
  obtain ⟨h1, h2, h3, s0, s1, a0, a1, a2⟩ := ax
  have key : ∀ sg, (sg = 1 ∨ sg = -1) → (hlt = true → 0 ≤ sg * v) → (hlt = false → 0 ≤ sg * (g - p)) → ∃ u, spyref2_AxisStep.p4 sg (mn_, mx, sp, ac) (p, v, g, hlt) (0, 0, 0, false) = some (moved p (sg * u) g hlt) ∧ -sp ≤ u ∧ u ≤ sp ∧ (hlt = true → u = if sg * v - ac > 0 then sg * v - ac else 0) ∧ (hlt = false → ∃ f, axis_next (mn_, mx, sp, ac) (sg * (g - p)) (sg * v) = some (sped ac (sg * v) f) ∧ u = sped ac (sg * v) f ∧ IsFast sp ac (sg * (g - p)) f) := by
    intro sg hs hq hg
    have hm : sg * v = v ∨ sg * v = 0 - v := by rcases hs with rfl | rfl <;> omega
    have hd : sg * (g - p) = g - p ∨ sg * (g - p) = p - g := by rcases hs with rfl | rfl <;> omega
    rw [spyref2_AxisStep.p4_eq]
    simp only [dt]
    rw [wi (x := sg * v) (by omega) (by omega), wi (x := g - p) (by omega) (by omega), wi (x := sg * (g - p)) (by omega) (by omega)]
    generalize sg * v = w at *
    rw [wi (x := w - ac) (by omega) (by omega), wi (x := w + ac) (by omega) (by omega), greater_eq, lesser_eq, bind_some_, bind_some_, bind_some_]
    cases hlt with
    | true =>
      rw [if_pos rfl, p10_ref hs (by omega) (by omega) (by split <;> omega) (by split <;> omega)]
      exact ⟨_, rfl, by split <;> omega, by split <;> omega, fun _ => rfl, fun q => by cases q⟩
    | false =>
      have hg := hg rfl
      generalize sg * (g - p) = dd at *
      obtain ⟨f, e1, e2, e3⟩ := next_eq ax' hc (d := dd) (v := w) (by omega) (by omega) hg
      have f0 := e2.r0
      have f1 := e2.r1
      have hin := sped_in (w := w) a0 a1 (by omega) (by omega) f0 f1
      rw [if_neg (by simp), e1, bind_some_, lesser_eq, bind_some_, greater_eq, bind_some_]
      refine ⟨sped ac w f, ?_, hin.1, hin.2, fun q => (by cases q), fun _ => ⟨f, e3, rfl, e2⟩⟩
      unfold sped at hin ⊢
      by_cases q : w < 0
      · rw [if_pos q] at hin ⊢
        rw [if_pos q, p10_ref hs (by omega) (by omega) (by split <;> omega) (by split <;> omega)]
      · rw [if_neg q] at hin ⊢
        rw [if_neg q, p10_ref hs (by omega) (by omega) (by omega) (by omega)]
  rw [axis_Step_eq, hk, bind_some_, if_neg (by simp), spyref2_AxisStep_eq]
  simp only [dt, df, not_t, ite_not, spyref2_AxisStep.p3_eq]
  cases hlt with
  | true =>
    simp only [if_true, Bool.true_eq_false, if_false]
    by_cases q : v < 0
    · obtain ⟨u, e1, e2, e3, e4, _⟩ := key (-1) (.inr rfl) (fun _ => by omega) (fun q => by cases q)
      have e4 := e4 rfl
      rw [if_pos q, if_neg (by omega), e1, axis_Step.p6_eq]
      simp only [if_true]
      rw [wi (x := v + ac) (by omega) (by omega), p10_prog (by omega) (by omega) (by split <;> omega) (by split <;> omega)]
      have : (if 0 < v + ac then 0 else v + ac) = -1 * u := by rw [e4]; split <;> split <;> omega
      rw [this]
      exact ⟨-1 * u, rfl, rfl, by omega, by omega, ⟨-1, .inr rfl, fun _ => ⟨by omega, by rw [show -1 * (-1 * u) = u by omega]; exact e4⟩, fun q => by cases q⟩⟩
    · obtain ⟨u, e1, e2, e3, e4, _⟩ := key 1 (.inl rfl) (fun _ => by omega) (fun q => by cases q)
      have e4 := e4 rfl
      rw [if_neg q, e1]
      by_cases q1 : v > 0
      · rw [if_pos q1, wi (x := v - ac) (by omega) (by omega), p10_prog (by omega) (by omega) (by split <;> omega) (by split <;> omega)]
        have : (if v - ac < 0 then 0 else v - ac) = 1 * u := by rw [e4]; split <;> split <;> omega
        rw [this]
        exact ⟨1 * u, rfl, rfl, by omega, by omega, ⟨1, .inl rfl, fun _ => ⟨by omega, by rw [show 1 * (1 * u) = u by omega]; exact e4⟩, fun q => by cases q⟩⟩
      · rw [if_neg q1, axis_Step.p6_eq]
        simp only [if_true]
        rw [wi (x := v + ac) (by omega) (by omega), p10_prog (by omega) (by omega) (by split <;> omega) (by split <;> omega)]
        have : (if 0 < v + ac then 0 else v + ac) = 1 * u := by rw [e4]; split <;> split <;> omega
        rw [this]
        exact ⟨1 * u, rfl, rfl, by omega, by omega, ⟨1, .inl rfl, fun _ => ⟨by omega, by rw [show 1 * (1 * u) = u by omega]; exact e4⟩, fun q => by cases q⟩⟩
  | false =>
    simp only [Bool.false_eq_true, if_false, if_true]
    rw [axis_Step.p6_eq]
    simp only [dt, Bool.false_eq_true, if_false]
    by_cases q : g < p
    · obtain ⟨u, e1, e2, e3, _, e4⟩ := key (-1) (.inr rfl) (fun q => by cases q) (fun _ => by omega)
      obtain ⟨f, e5, e6, e7⟩ := e4 rfl
      rw [show (-1) * (g - p) = p - g by omega, show -1 * v = 0 - v by omega] at e5
      rw [if_pos q, if_neg (by omega), e1, wi (x := p - g) (by omega) (by omega), wi (x := 0 - v) (by omega) (by omega), e5, bind_some_]
      rw [show -1 * v = 0 - v by omega] at e6
      rw [← e6, wi (x := 0 - u) (by omega) (by omega), p10_prog (by omega) (by omega) (by omega) (by omega), show 0 - u = -1 * u by omega]
      exact ⟨-1 * u, rfl, rfl, by omega, by omega, ⟨-1, .inr rfl, fun q => (by cases q), fun _ => ⟨by omega, f, e7, by rw [show -1 * (-1 * u) = u by omega, show -1 * v = 0 - v by omega]; exact e6⟩⟩⟩
    · obtain ⟨u, e1, e2, e3, _, e4⟩ := key 1 (.inl rfl) (fun q => by cases q) (fun _ => by omega)
      obtain ⟨f, e5, e6, e7⟩ := e4 rfl
      rw [Int.one_mul, Int.one_mul] at e5
      rw [Int.one_mul] at e6
      rw [if_neg q, if_pos (by omega), e1, wi (x := g - p) (by omega) (by omega), e5, bind_some_, ← e6, p10_prog (by omega) (by omega) (by omega) (by omega), Int.one_mul]
      exact ⟨u, rfl, rfl, by omega, by omega, ⟨1, .inl rfl, fun q => (by cases q), fun _ => ⟨by omega, f, e7, by rw [Int.one_mul, Int.one_mul]; exact e6⟩⟩⟩
/-- Where the axis stops, from its place on, in the direction of w. -/
def reach (ac w : Int) : Int := if w < 0 then 0 - stopd ac w else stopd ac w
theorem brk_more {A : Int} (hA : 1 ≤ A) : ∀ (n : Nat) (v : Int), v ≤ (n : Int) * A → brk A (n + 1) v = brk A n v
  | 0, v, h => by
    simp at h
    unfold brk
    rw [if_neg (by omega)]
  | n + 1, v, h => by
    have e : ((n + 1 : Nat) : Int) * A = (n : Int) * A + A := by
      push_cast
      grind
    unfold brk
    rw [brk_more hA n (v - A) (by omega)]
theorem brk_step {A v : Int} (hA : 1 ≤ A) (h : v ≤ 65 * A) : brk A 65 v = if v > 0 then v + brk A 65 (v - A) else 0 := by
  have : brk A 65 (v - A) = brk A 64 (v - A) := brk_more hA 64 (v - A) (by omega)
  rw [this]
  rfl
theorem reach_pos {A u : Int} (hA : 1 ≤ A) (h0 : 0 ≤ u) (h : u ≤ 64 * A) : u + reach A u = brk A 65 u := by
  unfold reach stopd
  rw [if_neg (by omega), if_neg (by omega), brk_step (v := u) hA (by omega)]
  by_cases c : u > 0
  · rw [if_pos c]
  · rw [if_neg c, brk_step (v := u - A) hA (by omega), if_neg (by omega)]
    omega
theorem reach_neg (A u : Int) : reach A (0 - u) = 0 - reach A u ∨ u = 0 := by
  by_cases c : u = 0
  · exact .inr c
  · refine .inl ?_
    unfold reach stopd
    by_cases d : u < 0
    · rw [if_neg (by omega), if_neg (by omega), if_pos d, if_pos d]
      omega
    · rw [if_pos (by omega), if_pos (by omega), if_neg d, if_neg d]
      congr 3
      omega
theorem reach_zero {A : Int} (hA : 1 ≤ A) : reach A 0 = 0 := by
  have := reach_pos (A := A) (u := 0) hA (by omega) (by omega)
  rw [brk_step hA (by omega), if_neg (by omega)] at this
  omega
theorem reach_sign {A u : Int} : (0 ≤ u → 0 ≤ reach A u) ∧ (u < 0 → reach A u ≤ 0) := by
  have := brk_nonneg A 65 ((if u < 0 then 0 - u else u) - A)
  constructor
  · intro h
    unfold reach stopd
    rw [if_neg (by omega)]
    exact this
  · intro h
    unfold reach stopd
    rw [if_pos h]
    omega
/-- Braking leaves the stop where it was. -/
theorem brake_pos {A w : Int} (hA : 1 ≤ A) (h0 : 0 ≤ w) (h : w ≤ 64 * A) : (if w - A > 0 then w - A else 0) + reach A (if w - A > 0 then w - A else 0) = reach A w := by
  have e : reach A w = brk A 65 (w - A) := by
    unfold reach stopd
    rw [if_neg (by omega), if_neg (by omega)]
  rw [e]
  by_cases c : w - A > 0
  · rw [if_pos c, reach_pos hA (by omega) (by omega)]
  · rw [if_neg c, reach_zero hA, brk_step hA (by omega), if_neg c]
    rfl
theorem brake_neg {A w : Int} (hA : 1 ≤ A) (h0 : w < 0) (h : 0 - w ≤ 64 * A) : (if w + A < 0 then w + A else 0) + reach A (if w + A < 0 then w + A else 0) = reach A w := by
  have b := brake_pos hA (w := 0 - w) (by omega) h
  have r := reach_neg A w
  rcases r with r | r
  · rw [r] at b
    by_cases c : w + A < 0
    · rw [if_pos c]
      rw [if_pos (by omega)] at b
      have q := reach_neg A (w + A)
      rw [show 0 - (w + A) = 0 - w - A by omega] at q
      rcases q with q | q
      · omega
      · omega
    · rw [if_neg c]
      rw [if_neg (by omega)] at b
      rw [reach_zero hA] at b ⊢
      omega
  · omega
/-- The stop after the beat, in the direction of the goal. -/
theorem reach_next {sp A w f d u : Int} (hA : 1 ≤ A) (hs : sp ≤ 64 * A) (w0 : -sp ≤ w) (w1 : w ≤ sp) (hf : IsFast sp A d f) (hu : u = sped A w f) : (u + reach A u = reach A w ∨ (0 ≤ u + reach A u ∧ u + reach A u ≤ d)) ∧ ((0 ≤ u ∧ 0 ≤ reach A u) ∨ (u ≤ 0 ∧ reach A u ≤ 0)) := by
  have s := reach_sign (A := A) (u := u)
  have z := reach_zero hA
  obtain ⟨f0, f1, f2, _⟩ := hf
  unfold sped at hu
  by_cases c : w < 0
  · rw [if_pos c] at hu
    have b := brake_neg hA c (by omega)
    rw [← hu] at b
    refine ⟨.inl b, ?_⟩
    by_cases e : u = 0
    · subst e
      omega
    · have : u < 0 := by split at hu <;> omega
      exact .inr ⟨by omega, s.2 this⟩
  · rw [if_neg c] at hu
    have b := brake_pos hA (w := w) (by omega) (by omega)
    by_cases q : (if w - A > 0 then w - A else 0) > (if w + A < f then w + A else f)
    · rw [if_pos q] at hu
      rw [← hu] at b
      have : 0 ≤ u := by split at hu <;> omega
      exact ⟨.inl b, .inl ⟨this, s.1 this⟩⟩
    · rw [if_neg q] at hu
      have u0 : 0 ≤ u := by split at hu <;> omega
      have uf : u ≤ f := by split at hu <;> omega
      have m := brk_mono A 65 u f uf
      have n := brk_nonneg A 65 u
      have r := reach_pos hA u0 (show u ≤ 64 * A by omega)
      exact ⟨.inr ⟨by omega, by omega⟩, .inl ⟨u0, s.1 u0⟩⟩
theorem zero_check {mn_ mx sp ac p v g : Int} {hlt : Bool} (h : StOk mn_ mx sp ac p v g) (hc : fault mn_ mx sp ac = 0) : axis_Check (mn_, mx, sp, ac) (p, v, g, hlt) = some (if mn_ ≤ p + reach ac v ∧ p + reach ac v ≤ mx then 0 else 16) := by
  obtain ⟨ax, p0, p1, g0, g1, v0, v1⟩ := h
  have ax' := ax
  obtain ⟨h1, h2, h3, s0, s1, a0, a1, a2⟩ := ax
  obtain ⟨r, e1, e2, e3⟩ := stop_same mn_ mx sp ac v
  have hr := stopd_in (v := v) ax' (by omega) (by omega)
  have e4 := e3 hc (by omega) (by omega)
  rw [← e4] at hr
  rw [axis_Check_eq, check_eq, bind_some_]
  simp only [ne_t, in_eq, bind_some_, not_f, not_t, dt, df, ite_not]
  rw [if_pos hc, if_pos ⟨p0, p1⟩, if_pos ⟨g0, g1⟩, wi (x := 0 - sp) (by omega) (by omega), if_neg (by omega), if_neg (by omega), e1, bind_some_]
  unfold reach
  rw [← e4]
  by_cases q2 : v < 0
  · rw [if_pos q2, if_pos q2, bind_some_, axis_Check.p9_eq]
    simp only [in_eq, bind_some_, not_t, df]
    rw [wi (x := p - r) (by omega) (by omega), show p + (0 - r) = p - r by omega]
    by_cases k3 : mn_ ≤ p - r ∧ p - r ≤ mx
    · rw [if_pos k3, if_neg (fun q => q k3)]
    · rw [if_neg k3, if_pos k3]
  · rw [if_neg q2, if_neg q2, axis_Check.p9_eq]
    simp only [in_eq, bind_some_, not_t, df]
    rw [wi (x := p + r) (by omega) (by omega)]
    by_cases k3 : mn_ ≤ p + r ∧ p + r ≤ mx
    · rw [if_pos k3, if_neg (fun q => q k3)]
    · rw [if_neg k3, if_pos k3]
/-- A state is valid: all that is needed of it. -/
structure Valid (mn_ mx sp ac : Int) (s : AxS) : Prop where
  hc : fault mn_ mx sp ac = 0
  st : StOk mn_ mx sp ac s.1 s.2.1 s.2.2.1
  ok : axis_Check (mn_, mx, sp, ac) s = some 0
theorem valid_of {mn_ mx sp ac p v g : Int} {hlt : Bool} (h : StOk mn_ mx sp ac p v g) (hc : fault mn_ mx sp ac = 0) (h0 : mn_ ≤ p + reach ac v) (h1 : p + reach ac v ≤ mx) : Valid mn_ mx sp ac (p, v, g, hlt) := ⟨hc, h, by rw [zero_check h hc, if_pos ⟨h0, h1⟩]⟩
theorem valid_step {mn_ mx sp ac : Int} {s : AxS} (h : Valid mn_ mx sp ac s) : ∃ s', axis_Step (mn_, mx, sp, ac) s = some s' ∧ spyref2_AxisStep (mn_, mx, sp, ac) s = some s' ∧ Valid mn_ mx sp ac s' := by
  obtain ⟨p, v, g, hlt⟩ := s
  obtain ⟨hc, st, ok⟩ := h
  simp only [] at st ok
  obtain ⟨v', e1, e2, n0, n1, sg, hs, nh, ng⟩ := step_more (hlt := hlt) st hc ok
  refine ⟨_, e1, e2, ?_⟩
  have z := zero_check (hlt := hlt) st hc
  rw [ok] at z
  obtain ⟨ax, p0, p1, g0, g1, v0, v1⟩ := st
  have ax' := ax
  obtain ⟨h1, h2, h3, s0, s1, a0, a1, a2⟩ := ax
  have inside : mn_ ≤ p + reach ac v ∧ p + reach ac v ≤ mx := by
    by_cases q : mn_ ≤ p + reach ac v ∧ p + reach ac v ≤ mx
    · exact q
    · rw [if_neg q] at z
      cases z
  have z0 := reach_zero a0
  have rv : sg * reach ac (sg * v) = reach ac v := by
    rcases hs with rfl | rfl
    · rw [Int.one_mul, Int.one_mul]
    · have := reach_neg ac v
      rw [show -1 * v = 0 - v by omega]
      rcases this with t | t
      · omega
      · subst t
        rw [show (0 : Int) - 0 = 0 from rfl]
        omega
  have rv' : sg * reach ac (sg * v') = reach ac v' := by
    rcases hs with rfl | rfl
    · rw [Int.one_mul, Int.one_mul]
    · have := reach_neg ac v'
      rw [show -1 * v' = 0 - v' by omega]
      rcases this with t | t
      · omega
      · subst t
        rw [show (0 : Int) - 0 = 0 from rfl]
        omega
  have both : ∃ d, ((sg * v' + reach ac (sg * v') = reach ac (sg * v)) ∨ (hlt = false ∧ 0 ≤ sg * v' + reach ac (sg * v') ∧ sg * v' + reach ac (sg * v') ≤ sg * (g - p))) ∧ ((0 ≤ sg * v' ∧ 0 ≤ reach ac (sg * v')) ∨ (sg * v' ≤ 0 ∧ reach ac (sg * v') ≤ 0)) ∧ d = 0 := by
    refine ⟨0, ?_⟩
    have w0 : -sp ≤ sg * v := by rcases hs with rfl | rfl <;> omega
    have w1 : sg * v ≤ sp := by rcases hs with rfl | rfl <;> omega
    cases hlt with
    | true =>
      obtain ⟨a, b⟩ := nh rfl
      have k := brake_pos a0 a (show sg * v ≤ 64 * ac by omega)
      rw [← b] at k
      have u0 : 0 ≤ sg * v' := by rw [b]; split <;> omega
      exact ⟨.inl k, .inl ⟨u0, reach_sign.1 u0⟩, rfl⟩
    | false =>
      obtain ⟨a, f, hf, b⟩ := ng rfl
      obtain ⟨k, l⟩ := reach_next a0 a2 w0 w1 hf b
      refine ⟨?_, l, rfl⟩
      rcases k with k | k
      · exact .inl k
      · exact .inr ⟨rfl, k⟩
  obtain ⟨_, k, l, _⟩ := both
  have fin : (mn_ ≤ p + v' ∧ p + v' ≤ mx) ∧ mn_ ≤ p + v' + reach ac v' ∧ p + v' + reach ac v' ≤ mx := by
    rw [← rv']
    rw [← rv] at inside
    generalize reach ac (sg * v') = R' at *
    generalize reach ac (sg * v) = R at *
    rcases hs with rfl | rfl
    · rw [Int.one_mul] at *
      rcases k with k | ⟨_, k⟩ <;> rcases l with l | l <;> omega
    · rcases k with k | ⟨_, k⟩ <;> rcases l with l | l <;> omega
  unfold moved
  by_cases q : hlt = true ∧ v' = 0
  · rw [if_pos q]
    exact valid_of ⟨ax', fin.1.1, fin.1.2, fin.1.1, fin.1.2, n0, n1⟩ hc fin.2.1 fin.2.2
  · rw [if_neg q]
    exact valid_of ⟨ax', fin.1.1, fin.1.2, g0, g1, n0, n1⟩ hc fin.2.1 fin.2.2

end Go.Proofs.Ytchmfnmnijhjfaa.Pure
