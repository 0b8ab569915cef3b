/- AxisSends: the pure statement, proved. -/
import Derived.Test.YtchmfnmnijhjfaaEA0
import Derived.Test.YtchmfnmnijhjfaaEA1
import Derived.Test.YtchmfnmnijhjfaaEA2
import Derived.Test.YtchmfnmnijhjfaaEA3
import Derived.Test.YtchmfnmnijhjfaaPl
import Derived.Test.YtchmfnmnijhjfaaLemAxis
import Derived.Test.YtchmfnmnijhjfaaLemAxisS
namespace Go.Proofs.Ytchmfnmnijhjfaa.Pure
set_option linter.unusedVariables false
set_option linter.unusedSimpArgs false
open Go Go.RowKit Go.Proofs.Ytchmfnmnijhjfaa.Pv Go.Proofs.Ytchmfnmnijhjfaa.Pl Go.Proofs.Ytchmfnmnijhjfaa.EA

theorem moves_true : spylaw2_moves = some true := callL_some.2 ⟨200, by kernel_rfl⟩
theorem AxisSends : ∀ (x0 : Int × Int × Int × Int) (x1 : Int × Int × Int × Bool) (x2 : Int), goodT Try.prog (.prod (.int .i64) (.prod (.int .i64) (.prod (.int .i64) (.int .i64)))) x0 → goodT Try.prog (.prod (.int .i64) (.prod (.int .i64) (.prod (.int .i64) .bool))) x1 → goodT Try.prog (.int .i64) x2 → spylaw2_AxisSends x0 x1 x2 = some true := by
  rintro ⟨mn_, mx, sp, ac⟩ ⟨p, v, g, hlt⟩ w _ _ _
  rw [spylaw2_AxisSends_eq, moves_true, bind_some_, if_neg (by simp), axis_Send_eq, axis_Brake_eq]
  obtain ⟨e, e1, e2, e3, _⟩ := state_same mn_ mx sp ac p v g hlt
  rw [e1, bind_some_, bind_some_, e2]
  simp only [ne_t, bind_some_]
  by_cases c : e = 0
  · subst c
    simp only [ne_eq, not_true_eq_false, if_false, in_eq, bind_some_, within_eq, not_t, df]
    by_cases k : mn_ ≤ w ∧ w ≤ mx
    · simp [k]
    · simp [k]
  · simp [c]

end Go.Proofs.Ytchmfnmnijhjfaa.Pure
