/- DomeSteps: the pure statement, proved. -/
import Derived.Test.YtchmfnmnijhjfaaEA0
import Derived.Test.YtchmfnmnijhjfaaEA1
import Derived.Test.YtchmfnmnijhjfaaEA2
import Derived.Test.YtchmfnmnijhjfaaEA3
import Derived.Test.YtchmfnmnijhjfaaPl
import Derived.Test.YtchmfnmnijhjfaaLemAxis
import Derived.Test.YtchmfnmnijhjfaaLemAxisS
import Derived.Test.YtchmfnmnijhjfaaLemDome
namespace Go.Proofs.Ytchmfnmnijhjfaa.Pure
set_option linter.unusedVariables false
set_option linter.unusedSimpArgs false
open Go Go.RowKit Go.Proofs.Ytchmfnmnijhjfaa.Pv Go.Proofs.Ytchmfnmnijhjfaa.Pl Go.Proofs.Ytchmfnmnijhjfaa.EA

theorem p11_same {p v g w : Int} {h : Bool} (a b : Int) (s3 s4 : Bool) (z : DmS) (w1 : axis_Step ((-8589934592), 8589934592, 33554432, 4194304) (p, v, g, h) = some (moved p w g h)) : dome_Step.p11 (a, b, s3, s4, p, v, g, h) z = some (a, b, s3, s4, moved p w g h) := by
  rw [dome_Step.p11_eq, dome_Axis_eq, bind_some_]
  simp only []
  rw [w1]
  rfl
theorem p16_same {p v g w : Int} {h : Bool} (a b : Int) (s3 s4 : Bool) (z : DmS) (w1 : spyref2_AxisStep ((-8589934592), 8589934592, 33554432, 4194304) (p, v, g, h) = some (moved p w g h)) : spyref2_DomeStep.p16 (a, b, s3, s4, p, v, g, h) z = some (a, b, s3, s4, moved p w g h) := by
  rw [spyref2_DomeStep.p16_eq, spyref2_Turner_eq, bind_some_]
  simp only []
  rw [w1]
  rfl
theorem p7_same {p v g w : Int} {h : Bool} (a b : Int) (s3 s4 : Bool) (z : DmS) (a0 : 0 ≤ a) (a1 : a ≤ 100) (w1 : axis_Step ((-8589934592), 8589934592, 33554432, 4194304) (p, v, g, h) = some (moved p w g h)) (w2 : spyref2_AxisStep ((-8589934592), 8589934592, 33554432, 4194304) (p, v, g, h) = some (moved p w g h)) : ∃ r, dome_Step.p7 (a, b, s3, s4, p, v, g, h) z = some r ∧ spyref2_DomeStep.p8 (a, b, s3, s4, p, v, g, h) z = some r := by
  rw [dome_Step.p7_eq, spyref2_DomeStep.p8_eq]
  simp only [dt, eq_t]
  rw [wi (x := a + 4) (by omega) (by omega), wi (x := a - 5) (by omega) (by omega)]
  cases s3 with
  | true =>
    rw [if_pos rfl, if_pos rfl]
    by_cases c : 100 < a + 4
    · rw [if_pos c, if_pos c]
      exact ⟨_, p11_same _ _ _ _ _ w1, p16_same _ _ _ _ _ w2⟩
    · rw [if_neg c, if_neg c]
      exact ⟨_, p11_same _ _ _ _ _ w1, p16_same _ _ _ _ _ w2⟩
  | false =>
    have ft : ¬ (false = true) := by simp
    rw [if_neg ft, if_neg ft]
    by_cases d : b = 0
    · rw [if_pos d, if_pos d]
      by_cases c : a - 5 < 0
      · rw [if_pos c, if_pos c]
        exact ⟨_, p11_same _ _ _ _ _ w1, p16_same _ _ _ _ _ w2⟩
      · rw [if_neg c, if_neg c]
        exact ⟨_, p11_same _ _ _ _ _ w1, p16_same _ _ _ _ _ w2⟩
    · rw [if_neg d, if_neg d]
      exact ⟨_, p11_same _ _ _ _ _ w1, p16_same _ _ _ _ _ w2⟩
theorem dome_step (a b p v g : Int) (s3 s4 h : Bool) (hk : dome_Check (a, b, s3, s4, p, v, g, h) = some 0) : ∃ r, dome_Step (a, b, s3, s4, p, v, g, h) = some r ∧ spyref2_DomeStep (a, b, s3, s4, p, v, g, h) = some r := by
  obtain ⟨e, e1, e2, e3⟩ := dome_same a b p v g s3 s4 h
  rw [hk] at e1
  injection e1 with e1
  obtain ⟨a0, a1, b0, b1, _, c1, o1, q1⟩ := e3 e1.symm
  obtain ⟨w, w1, w2, _⟩ := step_same o1 c1 q1
  rw [dome_Step_eq, hk, bind_some_, if_neg (by simp), spyref2_DomeStep_eq]
  have slow : ∃ r, dome_Step.p6 (a, b, s3, s4, p, v, g, h) (0, 0, false, false, 0, 0, 0, false) = some r ∧ spyref2_DomeStep.p2 false (a, b, s3, s4, p, v, g, h) (0, 0, false, false, 0, 0, 0, false) = some r := by
    rw [dome_Step.p6_eq, spyref2_DomeStep.p2_eq, if_neg (show ¬ (false = true) by simp), spyref2_DomeStep.p4_eq, if_pos (show (!false) = true from rfl)]
    simp only [dt]
    rw [wi (x := b - 2) (by omega) (by omega)]
    by_cases c : b - 2 < 0
    · rw [if_pos c, if_pos c]
      exact p7_same _ _ _ _ _ a0 a1 w1 w2
    · rw [if_neg c, if_neg c]
      exact p7_same _ _ _ _ _ a0 a1 w1 w2
  cases s3 with
  | false =>
    cases s4 with
    | false => exact slow
    | true => exact slow
  | true =>
    cases s4 with
    | false => exact slow
    | true =>
      simp only [if_true, eq_t]
      rw [spyref2_DomeStep.p2_eq, if_pos (show true = true from rfl)]
      simp only [eq_t, dt]
      rw [wi (x := b + 1) (by omega) (by omega)]
      by_cases c : a = 100
      · rw [if_pos c, if_pos c]
        by_cases d : b < 20
        · rw [if_pos d, if_neg (show ¬ 20 < b + 1 by omega), spyref2_DomeStep.p4_eq, if_neg (show ¬ ((!true) = true) by simp)]
          exact p7_same _ _ _ _ _ a0 a1 w1 w2
        · rw [if_neg d, if_pos (show 20 < b + 1 by omega), spyref2_DomeStep.p4_eq, if_neg (show ¬ ((!true) = true) by simp)]
          have : b = 20 := by omega
          subst this
          exact p7_same _ _ _ _ _ a0 a1 w1 w2
      · rw [if_neg c, if_neg c, spyref2_DomeStep.p4_eq, if_neg (show ¬ ((!true) = true) by simp)]
        exact p7_same _ _ _ _ _ a0 a1 w1 w2
theorem DomeSteps : ∀ (x0 : Int × Int × Bool × Bool × Int × Int × Int × Bool), goodT Try.prog (.prod (.int .i64) (.prod (.int .i64) (.prod .bool (.prod .bool (.prod (.int .i64) (.prod (.int .i64) (.prod (.int .i64) .bool))))))) x0 → spylaw2_DomeSteps x0 = some true := by
  rintro ⟨a, b, s3, s4, p, v, g, h⟩ _
  obtain ⟨e, e1, e2, _⟩ := dome_same a b p v g s3 s4 h
  rw [spylaw2_DomeSteps_eq, domes_true, bind_some_, if_neg (by simp), e2, bind_some_]
  by_cases c : e = 0
  · subst c
    obtain ⟨r, r1, r2⟩ := dome_step a b p v g s3 s4 h e1
    rw [if_pos (by simp), r2, bind_some_, r1, bind_some_]
    simp
  · rw [if_neg (by rw [eq_t]; exact c), dome_Step_eq, e1, bind_some_, if_pos (by rw [ne_t]; exact c), bind_some_]
    simp

end Go.Proofs.Ytchmfnmnijhjfaa.Pure
