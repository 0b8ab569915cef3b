/- AxisSteps: the pure statement, proved. -/
import Derived.Test.YtchmfnmnijhjfaaEA0
import Derived.Test.YtchmfnmnijhjfaaEA1
import Derived.Test.YtchmfnmnijhjfaaEA2
import Derived.Test.YtchmfnmnijhjfaaEA3
import Derived.Test.YtchmfnmnijhjfaaPl
import Derived.Test.YtchmfnmnijhjfaaLemAxis
import Derived.Test.YtchmfnmnijhjfaaLemAxisS
namespace Go.Proofs.Ytchmfnmnijhjfaa.Pure
set_option linter.unusedVariables false
set_option linter.unusedSimpArgs false
open Go Go.RowKit Go.Proofs.Ytchmfnmnijhjfaa.Pv Go.Proofs.Ytchmfnmnijhjfaa.Pl Go.Proofs.Ytchmfnmnijhjfaa.EA

theorem moves_true : spylaw2_moves = some true := callL_some.2 ⟨200, by kernel_rfl⟩
theorem AxisSteps : ∀ (x0 : Int × Int × Int × Int) (x1 : Int × Int × Int × Bool), goodT Try.prog (.prod (.int .i64) (.prod (.int .i64) (.prod (.int .i64) (.int .i64)))) x0 → goodT Try.prog (.prod (.int .i64) (.prod (.int .i64) (.prod (.int .i64) .bool))) x1 → spylaw2_AxisSteps x0 x1 = some true := by
  rintro ⟨mn_, mx, sp, ac⟩ ⟨p, v, g, hlt⟩ _ _
  rw [spylaw2_AxisSteps_eq, moves_true, bind_some_, if_neg (by simp)]
  obtain ⟨e, e1, e2, e3, _⟩ := state_same mn_ mx sp ac p v g hlt
  rw [e2, bind_some_]
  simp only [eq_t]
  by_cases c : e = 0
  · subst c
    obtain ⟨h1, h2⟩ := e3 rfl
    obtain ⟨v', s1, s2, _⟩ := step_same h2 h1 e1
    rw [if_pos rfl, s2, bind_some_, s1, bind_some_]
    simp
  · rw [if_neg c, axis_Step_eq, e1, bind_some_, if_pos (by rw [ne_t]; exact c), bind_some_]
    simp

end Go.Proofs.Ytchmfnmnijhjfaa.Pure
