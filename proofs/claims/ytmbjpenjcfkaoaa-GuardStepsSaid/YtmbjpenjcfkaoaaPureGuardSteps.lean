/- GuardSteps: the pure statement, proved. -/
import Derived.Test.YtmbjpenjcfkaoaaEA0
import Derived.Test.YtmbjpenjcfkaoaaEA1
import Derived.Test.YtmbjpenjcfkaoaaEA2
import Derived.Test.YtmbjpenjcfkaoaaEA3
import Derived.Test.YtmbjpenjcfkaoaaEA4
import Derived.Test.YtmbjpenjcfkaoaaEA5
import Derived.Test.YtmbjpenjcfkaoaaEA6
import Derived.Test.YtmbjpenjcfkaoaaEA7
import Derived.Test.YtmbjpenjcfkaoaaEA8
import Derived.Test.YtmbjpenjcfkaoaaEA9
import Derived.Test.YtmbjpenjcfkaoaaPl
import Derived.Test.YtmbjpenjcfkaoaaLemAxis
import Derived.Test.YtmbjpenjcfkaoaaLemAxisS
import Derived.Test.YtmbjpenjcfkaoaaLemMount
import Derived.Test.YtmbjpenjcfkaoaaLemDome
import Derived.Test.YtmbjpenjcfkaoaaLemCam
import Derived.Test.YtmbjpenjcfkaoaaLemMoves
import Derived.Test.YtmbjpenjcfkaoaaLemGuard
import Derived.Test.YtmbjpenjcfkaoaaLemGuardM
namespace Go.Proofs.Ytmbjpenjcfkaoaa.Pure
set_option linter.unusedVariables false
set_option linter.unusedSimpArgs false
open Go Go.RowKit Go.Proofs.Ytmbjpenjcfkaoaa.Pv Go.Proofs.Ytmbjpenjcfkaoaa.Pl Go.Proofs.Ytmbjpenjcfkaoaa.EA

theorem guards_true : spylaw2_guards = some true := callL_some.2 ⟨200, by kernel_rfl⟩
theorem p8_same (m : MtM) (w z : WD) (h : Devs m w) : ∃ r, guard_Step.p8 m w z = some r ∧ spyref2_GuardStep.p8 m w z = some r := by
  obtain ⟨a, a1, a2⟩ := step_mount m w.1 h.mt
  obtain ⟨b, b1, b2⟩ := step_dome w.2.1 h.dm
  obtain ⟨c, c1, c2⟩ := step_cam w.2.2.1 h.cm
  obtain ⟨q, q1, q2⟩ := rest_same (a, b, c, w.2.2.2)
  rw [guard_Step.p8_eq, spyref2_GuardStep.p8_eq, a1, a2, b1, b2, c1, c2]
  simp only [bind_some_, q1, q2, eq_t]
  by_cases k : w.2.2.2.2.2.1 = 1
  · rw [if_pos k]
    cases q with
    | true => exact ⟨_, rfl, rfl⟩
    | false => exact ⟨_, rfl, rfl⟩
  · rw [if_neg k]
    exact ⟨_, rfl, rfl⟩
theorem p6_same (m : MtM) (w z : WD) (s : Bool × Bool × Bool × Bool × Bool) (h : Devs m w) : ∃ r, guard_Step.p6 m w s z = some r ∧ spyref2_GuardStep.p6 m w s z = some r := by
  obtain ⟨a, a1, a2, a3⟩ := lock_same m w h
  rw [guard_Step.p6_eq, spyref2_GuardStep.p6_eq, a1, a2]
  cases s.2.2.2.2 with
  | true => exact p8_same m a z a3
  | false => exact p8_same m w z h
theorem count_same (n : Int) (on : Bool) (h0 : 0 ≤ n) (h1 : n ≤ 17592186044416) : ∃ r, guard_count n on = some r ∧ spyref2_next n on = some r := by
  rw [guard_count_eq, spyref2_next_eq]
  simp only [dt]
  rw [wi (x := n + 1) (by omega) (by omega)]
  cases on with
  | false => exact ⟨0, rfl, rfl⟩
  | true =>
    by_cases k : n < 17592186044416
    · exact ⟨n + 1, by simp; omega, by simp [k]⟩
    · exact ⟨n, by simp; omega, by simp [k]⟩
theorem guard_step (m : MtM) (w : WD) (s : Bool × Bool × Bool × Bool × Bool) : ∃ r, guard_Step m w s = some r ∧ spyref2_GuardStep m w s = some r := by
  obtain ⟨e, e1, e2, e3⟩ := world_same m w
  obtain ⟨hz, hz1, hz2⟩ := hazard_same s
  rw [guard_Step_eq, spyref2_GuardStep_eq, e1, e2, bind_some_, bind_some_]
  by_cases c : e = 0
  · have nc : ¬ ((e != 0) = true) := by rw [ne_t]; omega
    have ok := e3 c
    obtain ⟨i, i1, i2⟩ := count_same w.2.2.2.2.2.2.1 hz ok.bd.2.2.1 ok.bd.2.2.2.1
    obtain ⟨j, j1, j2⟩ := count_same w.2.2.2.2.2.2.2 s.2.2.2.2 ok.bd.2.2.2.2.1 ok.bd.2.2.2.2.2
    have dv : Devs m (w.1, w.2.1, w.2.2.1, s, w.2.2.2.2.1, w.2.2.2.2.2.1, i, j) := ⟨ok.mt, ok.dm, ok.cm⟩
    rw [if_neg nc, if_neg nc, hz1, hz2]
    simp only [bind_some_, i1, i2, j1, j2, eq_t]
    have p6 := p6_same m (w.1, w.2.1, w.2.2.1, s, w.2.2.2.2.1, w.2.2.2.2.2.1, i, j) (((0, 0, 0, false), (0, 0, 0, false), 0), (0, 0, false, false, 0, 0, 0, false), (0, 0, 0, 0), (false, false, false, false, false), (0, 0), 0, 0, 0) s dv
    cases hz with
    | false =>
      by_cases k : w.2.2.2.2.2.1 = 0
      · rw [if_pos k]
        exact p6
      · rw [if_neg k]
        exact p6
    | true =>
      by_cases k : w.2.2.2.2.2.1 = 0
      · obtain ⟨a, a1, a2, a3⟩ := begin_same m _ dv
        rw [a1, a2]
        simp only [if_pos k, if_true, bind_some_]
        exact p6_same m a _ s a3
      · simp only [if_neg k, if_true]
        exact p6
  · have nc : (e != 0) = true := by rw [ne_t]; exact c
    exact ⟨w, by rw [if_pos nc], by rw [if_pos nc]⟩
theorem GuardSteps : ∀ (x0 : (Int × Int × Int × Int) × (Int × Int × Int × Int) × Int × Int) (x1 : ((Int × Int × Int × Bool) × (Int × Int × Int × Bool) × Int) × (Int × Int × Bool × Bool × Int × Int × Int × Bool) × (Int × Int × Int × Int) × (Bool × Bool × Bool × Bool × Bool) × (Int × Int) × Int × Int × Int) (x2 : Bool × Bool × Bool × Bool × Bool), goodT Try.prog (.prod (.prod (.int .i64) (.prod (.int .i64) (.prod (.int .i64) (.int .i64)))) (.prod (.prod (.int .i64) (.prod (.int .i64) (.prod (.int .i64) (.int .i64)))) (.prod (.int .i64) (.int .i64)))) x0 → goodT Try.prog (.prod (.prod (.prod (.int .i64) (.prod (.int .i64) (.prod (.int .i64) .bool))) (.prod (.prod (.int .i64) (.prod (.int .i64) (.prod (.int .i64) .bool))) (.int .i64))) (.prod (.prod (.int .i64) (.prod (.int .i64) (.prod .bool (.prod .bool (.prod (.int .i64) (.prod (.int .i64) (.prod (.int .i64) .bool))))))) (.prod (.prod (.int .i64) (.prod (.int .i64) (.prod (.int .i64) (.int .i64)))) (.prod (.prod .bool (.prod .bool (.prod .bool (.prod .bool .bool)))) (.prod (.prod (.int .i64) (.int .i64)) (.prod (.int .i64) (.prod (.int .i64) (.int .i64)))))))) x1 → goodT Try.prog (.prod .bool (.prod .bool (.prod .bool (.prod .bool .bool)))) x2 → spylaw2_GuardSteps x0 x1 x2 = some true := by
  intro m w s _ _ _
  obtain ⟨r, r1, r2⟩ := guard_step m w s
  rw [spylaw2_GuardSteps_eq, guards_true, bind_some_, if_pos rfl, r1, r2, bind_some_, bind_some_]
  simp

end Go.Proofs.Ytmbjpenjcfkaoaa.Pure
