/- PropNights: the pure statement, proved. -/
import Derived.Test.YtliifndlmhlkfaaDoorEA0
import Derived.Test.YtliifndlmhlkfaaDoorEA1
import Derived.Test.YtliifndlmhlkfaaDoorPl
import Derived.Test.YtliifndlmhlkfaaDoorLemA
namespace Go.Proofs.YtliifndlmhlkfaaDoor.Pure
set_option linter.unusedVariables false
set_option linter.unusedSimpArgs false
open Go Go.RowKit Go.Proofs.YtliifndlmhlkfaaDoor.Pv Go.Proofs.YtliifndlmhlkfaaDoor.Pl Go.Proofs.YtliifndlmhlkfaaDoor.EA

theorem props_true : spylaw2_props = some true := callL_some.2 ⟨200, by kernel_rfl⟩
theorem PropNights : ∀ (x0 : (Int × Int) × (Int × Int × Int × Int) × Int × Int × Int × (Int × Int × Int) × (Int × Int × Int) × Int × List Int), goodT Tryd.prog (.prod (.prod (.int .i64) (.int .i64)) (.prod (.prod (.int .i64) (.prod (.int .i64) (.prod (.int .i64) (.int .i64)))) (.prod (.int .i64) (.prod (.int .i64) (.prod (.int .i64) (.prod (.prod (.int .i64) (.prod (.int .i64) (.int .i64))) (.prod (.prod (.int .i64) (.prod (.int .i64) (.int .i64))) (.prod (.int .i64) (.list false 3 (.int .i64)))))))))) x0 → spylaw2_PropNights x0 = some true := by
  intro n _
  obtain ⟨h1, e, h2⟩ := night_eq n
  obtain ⟨d, h3⟩ := spin_def n.2.1
  rw [spylaw2_PropNights_eq, props_true, bind_some_, if_pos rfl, h1, h2, bind_some_, bind_some_, if_pos (by simp), spin_eq, h3, bind_some_, bind_some_]
  simp

end Go.Proofs.YtliifndlmhlkfaaDoor.Pure
