/- GuardChecks: the pure statement, proved. -/
import Derived.Test.YtmbjpenjcfkaoaaEA0
import Derived.Test.YtmbjpenjcfkaoaaEA1
import Derived.Test.YtmbjpenjcfkaoaaEA2
import Derived.Test.YtmbjpenjcfkaoaaEA3
import Derived.Test.YtmbjpenjcfkaoaaEA4
import Derived.Test.YtmbjpenjcfkaoaaEA5
import Derived.Test.YtmbjpenjcfkaoaaEA6
import Derived.Test.YtmbjpenjcfkaoaaEA7
import Derived.Test.YtmbjpenjcfkaoaaEA8
import Derived.Test.YtmbjpenjcfkaoaaEA9
import Derived.Test.YtmbjpenjcfkaoaaPl
import Derived.Test.YtmbjpenjcfkaoaaLemAxis
import Derived.Test.YtmbjpenjcfkaoaaLemAxisS
import Derived.Test.YtmbjpenjcfkaoaaLemMount
import Derived.Test.YtmbjpenjcfkaoaaLemDome
import Derived.Test.YtmbjpenjcfkaoaaLemCam
import Derived.Test.YtmbjpenjcfkaoaaLemMoves
import Derived.Test.YtmbjpenjcfkaoaaLemGuard
namespace Go.Proofs.Ytmbjpenjcfkaoaa.Pure
set_option linter.unusedVariables false
set_option linter.unusedSimpArgs false
open Go Go.RowKit Go.Proofs.Ytmbjpenjcfkaoaa.Pv Go.Proofs.Ytmbjpenjcfkaoaa.Pl Go.Proofs.Ytmbjpenjcfkaoaa.EA

theorem guards_true : spylaw2_guards = some true := callL_some.2 ⟨200, by kernel_rfl⟩
theorem late4 (o : Int) (ho : o = 0 ∨ o = 1) (m : MtM) (w : WD) (q : ∀ o', spylaw2_GuardChecks.p8 o' m w = some true ∨ guard_Late w ≠ some o') (hl : guard_Late w = guard_Late.p4 o w) : spylaw2_GuardChecks.p6 o m w = some true := by
  rw [spylaw2_GuardChecks.p6_eq, spylaw2_GuardChecks.p7_eq]
  have e : IntKind.i64.wrap (bitop .or .i64 o 2) = IntKind.i64.wrap (o + 2) := by
    rcases ho with rfl | rfl
    · rw [or02, wi (by omega) (by omega)]
      rfl
    · rw [or12, wi (by omega) (by omega)]
      rfl
  rw [guard_Late.p4_eq, mount_Moving_eq, e] at hl
  generalize IntKind.i64.wrap (o + 2) = t at *
  simp only [dt, ne_f, ne_t] at hl ⊢
  by_cases k : w.2.2.2.2.2.2.2 > 65
  · by_cases c1 : w.1.1.2.1 = 0
    · by_cases c2 : w.1.2.1.2.1 = 0
      · simp [k, c1, c2] at hl ⊢
        exact (q o).resolve_right (fun n => n hl)
      · simp [k, c1, c2] at hl ⊢
        exact (q t).resolve_right (fun n => n hl)
    · simp [k, c1] at hl ⊢
      exact (q t).resolve_right (fun n => n hl)
  · simp [k] at hl ⊢
    exact (q o).resolve_right (fun n => n hl)
theorem GuardChecks : ∀ (x0 : (Int × Int × Int × Int) × (Int × Int × Int × Int) × Int × Int) (x1 : ((Int × Int × Int × Bool) × (Int × Int × Int × Bool) × Int) × (Int × Int × Bool × Bool × Int × Int × Int × Bool) × (Int × Int × Int × Int) × (Bool × Bool × Bool × Bool × Bool) × (Int × Int) × Int × Int × Int), goodT Try.prog (.prod (.prod (.int .i64) (.prod (.int .i64) (.prod (.int .i64) (.int .i64)))) (.prod (.prod (.int .i64) (.prod (.int .i64) (.prod (.int .i64) (.int .i64)))) (.prod (.int .i64) (.int .i64)))) x0 → goodT Try.prog (.prod (.prod (.prod (.int .i64) (.prod (.int .i64) (.prod (.int .i64) .bool))) (.prod (.prod (.int .i64) (.prod (.int .i64) (.prod (.int .i64) .bool))) (.int .i64))) (.prod (.prod (.int .i64) (.prod (.int .i64) (.prod .bool (.prod .bool (.prod (.int .i64) (.prod (.int .i64) (.prod (.int .i64) .bool))))))) (.prod (.prod (.int .i64) (.prod (.int .i64) (.prod (.int .i64) (.int .i64)))) (.prod (.prod .bool (.prod .bool (.prod .bool (.prod .bool .bool)))) (.prod (.prod (.int .i64) (.int .i64)) (.prod (.int .i64) (.prod (.int .i64) (.int .i64)))))))) x1 → spylaw2_GuardChecks x0 x1 = some true := by
  intro m w _ _
  obtain ⟨e, e1, e2, _⟩ := world_same m w
  obtain ⟨hd, hd1, hd2⟩ := hard_same w
  obtain ⟨hz, hz1, hz2⟩ := hazard_same w.2.2.2.1
  obtain ⟨r, r1, r2⟩ := rest_same w
  have q : ∀ o', spylaw2_GuardChecks.p8 o' m w = some true ∨ guard_Late w ≠ some o' := by
    intro o'
    by_cases k : guard_Late w = some o'
    · left
      rw [spylaw2_GuardChecks.p8_eq, k, bind_some_, if_pos (by simp), guard_Start_eq, mount_Rest_eq, axis_Rest_eq, axis_Rest_eq]
      simp
    · exact .inr k
  rw [spylaw2_GuardChecks_eq, guards_true, bind_some_, if_pos (by simp), hz1, hz2, bind_some_, bind_some_, if_pos (by simp), hd1, hd2, bind_some_, bind_some_, if_pos (by simp), r1, r2, bind_some_, bind_some_, if_pos (by simp), e1, e2, bind_some_, bind_some_, if_neg (by simp), spylaw2_GuardChecks.p5_eq, wi (by omega) (by omega)]
  have hl := guard_Late_eq w
  rw [or01, dome_Closed_eq] at hl
  simp only [dt, eq_t, ne_f, ne_t, not_t] at hl ⊢
  by_cases k : w.2.2.2.2.2.2.1 > 97
  · by_cases c1 : w.2.1.1 = 0
    · by_cases c2 : w.2.1.2.1 = 0
      · simp [k, c1, c2] at hl ⊢
        exact late4 0 (.inl rfl) m w q hl
      · simp [k, c1, c2] at hl ⊢
        exact late4 1 (.inr rfl) m w q hl
    · simp [k, c1] at hl ⊢
      exact late4 1 (.inr rfl) m w q hl
  · simp [k] at hl ⊢
    exact late4 0 (.inl rfl) m w q hl

end Go.Proofs.Ytmbjpenjcfkaoaa.Pure
