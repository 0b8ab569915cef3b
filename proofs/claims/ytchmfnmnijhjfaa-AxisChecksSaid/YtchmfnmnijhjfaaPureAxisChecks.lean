/- AxisChecks: the pure statement, proved. -/
import Derived.Test.YtchmfnmnijhjfaaEA0
import Derived.Test.YtchmfnmnijhjfaaEA1
import Derived.Test.YtchmfnmnijhjfaaEA2
import Derived.Test.YtchmfnmnijhjfaaEA3
import Derived.Test.YtchmfnmnijhjfaaPl
import Derived.Test.YtchmfnmnijhjfaaLemAxis
import Derived.Test.YtchmfnmnijhjfaaLemAxisS
namespace Go.Proofs.Ytchmfnmnijhjfaa.Pure
set_option linter.unusedVariables false
set_option linter.unusedSimpArgs false
open Go Go.RowKit Go.Proofs.Ytchmfnmnijhjfaa.Pv Go.Proofs.Ytchmfnmnijhjfaa.Pl Go.Proofs.Ytchmfnmnijhjfaa.EA

theorem moves_true : spylaw2_moves = some true := callL_some.2 ⟨200, by kernel_rfl⟩
theorem AxisChecks : ∀ (x0 : Int × Int × Int × Int) (x1 : Int × Int × Int × Bool) (x2 : Int), goodT Try.prog (.prod (.int .i64) (.prod (.int .i64) (.prod (.int .i64) (.int .i64)))) x0 → goodT Try.prog (.prod (.int .i64) (.prod (.int .i64) (.prod (.int .i64) .bool))) x1 → goodT Try.prog (.int .i64) x2 → spylaw2_AxisChecks x0 x1 x2 = some true := by
  rintro ⟨mn_, mx, sp, ac⟩ ⟨p, v, g, hlt⟩ w _ _ _
  rw [spylaw2_AxisChecks_eq, moves_true, bind_some_, if_pos rfl]
  obtain ⟨e, e1, e2, e3, _⟩ := state_same mn_ mx sp ac p v g hlt
  obtain ⟨r, r1, r2, _⟩ := stop_same mn_ mx sp ac w
  obtain ⟨t1, t2⟩ := rest_eq p v g hlt
  rw [e1, bind_some_, e2, bind_some_, if_pos (by simp), r1, bind_some_, r2, bind_some_, if_pos (by simp), t1, bind_some_, t2, bind_some_, if_pos (by simp), axis_Rest_eq, bind_some_]
  simp

end Go.Proofs.Ytchmfnmnijhjfaa.Pure
