/- MountChecks: the pure statement, proved. -/
import Derived.Test.YtchmfnmnijhjfaaEA0
import Derived.Test.YtchmfnmnijhjfaaEA1
import Derived.Test.YtchmfnmnijhjfaaEA2
import Derived.Test.YtchmfnmnijhjfaaEA3
import Derived.Test.YtchmfnmnijhjfaaPl
import Derived.Test.YtchmfnmnijhjfaaLemAxis
import Derived.Test.YtchmfnmnijhjfaaLemAxisS
import Derived.Test.YtchmfnmnijhjfaaLemMount
namespace Go.Proofs.Ytchmfnmnijhjfaa.Pure
set_option linter.unusedVariables false
set_option linter.unusedSimpArgs false
open Go Go.RowKit Go.Proofs.Ytchmfnmnijhjfaa.Pv Go.Proofs.Ytchmfnmnijhjfaa.Pl Go.Proofs.Ytchmfnmnijhjfaa.EA

theorem MountChecks : ∀ (x0 : (Int × Int × Int × Int) × (Int × Int × Int × Int) × Int × Int) (x1 : (Int × Int × Int × Bool) × (Int × Int × Int × Bool) × Int), goodT Try.prog (.prod (.prod (.int .i64) (.prod (.int .i64) (.prod (.int .i64) (.int .i64)))) (.prod (.prod (.int .i64) (.prod (.int .i64) (.prod (.int .i64) (.int .i64)))) (.prod (.int .i64) (.int .i64)))) x0 → goodT Try.prog (.prod (.prod (.int .i64) (.prod (.int .i64) (.prod (.int .i64) .bool))) (.prod (.prod (.int .i64) (.prod (.int .i64) (.prod (.int .i64) .bool))) (.int .i64))) x1 → spylaw2_MountChecks x0 x1 = some true := by
  rintro ⟨⟨m1, x1, s1, a1⟩, ⟨m2, x2, s2, a2⟩, k1, k2⟩ ⟨⟨p, v, g, h⟩, ⟨p', v', g', h'⟩, k⟩ _ _
  obtain ⟨e, e1, e2, _⟩ := mount_same m1 x1 s1 a1 m2 x2 s2 a2 k1 k2 p v g p' v' g' k h h'
  rw [spylaw2_MountChecks_eq, mounts_true, bind_some_, if_pos (by simp), e1, bind_some_, e2, bind_some_, if_pos (by simp), mount_Pose_eq, bind_some_, if_neg (by simp), mount_Rest_eq, axis_Rest_eq, axis_Rest_eq, bind_some_, bind_some_, bind_some_, if_pos (by simp), mount_Moving_eq]
  simp only [ne_f]
  by_cases c : v = 0
  · simp [c]
  · simp [c]

end Go.Proofs.Ytchmfnmnijhjfaa.Pure
