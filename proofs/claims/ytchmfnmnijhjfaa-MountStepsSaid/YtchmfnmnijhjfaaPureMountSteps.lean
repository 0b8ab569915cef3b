/- MountSteps: the pure statement, proved. -/
import Derived.Test.YtchmfnmnijhjfaaEA0
import Derived.Test.YtchmfnmnijhjfaaEA1
import Derived.Test.YtchmfnmnijhjfaaEA2
import Derived.Test.YtchmfnmnijhjfaaEA3
import Derived.Test.YtchmfnmnijhjfaaPl
import Derived.Test.YtchmfnmnijhjfaaLemAxis
import Derived.Test.YtchmfnmnijhjfaaLemAxisS
import Derived.Test.YtchmfnmnijhjfaaLemMount
namespace Go.Proofs.Ytchmfnmnijhjfaa.Pure
set_option linter.unusedVariables false
set_option linter.unusedSimpArgs false
open Go Go.RowKit Go.Proofs.Ytchmfnmnijhjfaa.Pv Go.Proofs.Ytchmfnmnijhjfaa.Pl Go.Proofs.Ytchmfnmnijhjfaa.EA

theorem mode_tab (k : Int) (h0 : 0 ≤ k) (h1 : k ≤ 5) (a b : AxS) : (if (k == 2) = true then (some (a, b, 3)) else (if (k == 4) = true then (some (a, b, 0)) else (if (k == 5) = true then (some (a, b, 1)) else (some (a, b, k))))) = (some (a, b, ([0, 1, 3, 3, 0, 1] : List Int).getD k.toNat 0) : Option MtS) := by
  have : k = 0 ∨ k = 1 ∨ k = 2 ∨ k = 3 ∨ k = 4 ∨ k = 5 := by omega
  rcases this with rfl | rfl | rfl | rfl | rfl | rfl <;> rfl
theorem mount_step (m1 x1 s1 a1 m2 x2 s2 a2 k1 k2 p v g p' v' g' k : Int) (h h' : Bool) :
    (mount_Check ((m1, x1, s1, a1), (m2, x2, s2, a2), k1, k2) ((p, v, g, h), (p', v', g', h'), k) = some 0 → ∃ r, mount_Step ((m1, x1, s1, a1), (m2, x2, s2, a2), k1, k2) ((p, v, g, h), (p', v', g', h'), k) = some r ∧ spyref2_MountStep ((m1, x1, s1, a1), (m2, x2, s2, a2), k1, k2) ((p, v, g, h), (p', v', g', h'), k) = some r) := by
  intro hk
  obtain ⟨e, e1, e2, e3⟩ := mount_same m1 x1 s1 a1 m2 x2 s2 a2 k1 k2 p v g p' v' g' k h h'
  rw [hk] at e1
  injection e1 with e1
  obtain ⟨c1, o1, q1, c2, o2, q2, l0, l5, _⟩ := e3 e1.symm
  obtain ⟨w, w1, w2, _⟩ := step_same o1 c1 q1
  obtain ⟨w', w1', w2', _⟩ := step_same o2 c2 q2
  rw [mount_Step_eq, hk, bind_some_, if_neg (by simp), spyref2_MountStep_eq]
  simp only [w1, w2, w1', w2', bind_some_]
  generalize moved p w g h = S1
  generalize moved p' w' g' h' = S2
  obtain ⟨b1, b2, b3, b4⟩ := S1
  obtain ⟨d1, d2, d3, d4⟩ := S2
  rw [(rest_eq b1 b2 b3 b4).1, (rest_eq b1 b2 b3 b4).2, (rest_eq d1 d2 d3 d4).1, (rest_eq d1 d2 d3 d4).2]
  simp only [bind_some_]
  have l6 : k < 6 := by omega
  generalize (decide (b2 = 0 ∧ b1 = b3) && !b4) = B1
  generalize (decide (d2 = 0 ∧ d1 = d3) && !d4) = B2
  refine ⟨((b1, b2, b3, b4), (d1, d2, d3, d4), if (B1 && B2) = true then ([0, 1, 3, 3, 0, 1] : List Int).getD k.toNat 0 else k), ?_, ?_⟩
  · cases B1 <;> cases B2
    · rfl
    · rfl
    · rfl
    · exact mode_tab k l0 l5 _ _
  · cases B1 <;> cases B2
    · rfl
    · rfl
    · rfl
    · exact (if_pos rfl).trans ((if_pos rfl).trans ((if_pos l0).trans (if_pos l6)))
theorem MountSteps : ∀ (x0 : (Int × Int × Int × Int) × (Int × Int × Int × Int) × Int × Int) (x1 : (Int × Int × Int × Bool) × (Int × Int × Int × Bool) × Int), goodT Try.prog (.prod (.prod (.int .i64) (.prod (.int .i64) (.prod (.int .i64) (.int .i64)))) (.prod (.prod (.int .i64) (.prod (.int .i64) (.prod (.int .i64) (.int .i64)))) (.prod (.int .i64) (.int .i64)))) x0 → goodT Try.prog (.prod (.prod (.int .i64) (.prod (.int .i64) (.prod (.int .i64) .bool))) (.prod (.prod (.int .i64) (.prod (.int .i64) (.prod (.int .i64) .bool))) (.int .i64))) x1 → spylaw2_MountSteps x0 x1 = some true := by
  rintro ⟨⟨m1, x1, s1, a1⟩, ⟨m2, x2, s2, a2⟩, k1, k2⟩ ⟨⟨p, v, g, h⟩, ⟨p', v', g', h'⟩, k⟩ _ _
  obtain ⟨e, e1, e2, _⟩ := mount_same m1 x1 s1 a1 m2 x2 s2 a2 k1 k2 p v g p' v' g' k h h'
  rw [spylaw2_MountSteps_eq, mounts_true, bind_some_, if_neg (by simp), e2, bind_some_]
  by_cases c : e = 0
  · subst c
    obtain ⟨r, r1, r2⟩ := mount_step m1 x1 s1 a1 m2 x2 s2 a2 k1 k2 p v g p' v' g' k h h' e1
    rw [if_pos (by simp), r2, bind_some_, r1, bind_some_]
    simp
  · rw [if_neg (by rw [eq_t]; exact c), mount_Step_eq, e1, bind_some_, if_pos (by rw [ne_t]; exact c), bind_some_]
    simp

end Go.Proofs.Ytchmfnmnijhjfaa.Pure
