/- Beats and orders of mounts and domes. -/
import Derived.Test.YtmbjpenjcfkaoaaEA0
import Derived.Test.YtmbjpenjcfkaoaaEA1
import Derived.Test.YtmbjpenjcfkaoaaEA2
import Derived.Test.YtmbjpenjcfkaoaaEA3
import Derived.Test.YtmbjpenjcfkaoaaEA4
import Derived.Test.YtmbjpenjcfkaoaaPl
import Derived.Test.YtmbjpenjcfkaoaaLemAxis
import Derived.Test.YtmbjpenjcfkaoaaLemAxisS
import Derived.Test.YtmbjpenjcfkaoaaLemMount
import Derived.Test.YtmbjpenjcfkaoaaLemDome
namespace Go.Proofs.Ytmbjpenjcfkaoaa.Pure
set_option linter.unusedVariables false
set_option linter.unusedSimpArgs false
open Go Go.RowKit Go.Proofs.Ytmbjpenjcfkaoaa.Pv Go.Proofs.Ytmbjpenjcfkaoaa.Pl Go.Proofs.Ytmbjpenjcfkaoaa.EA

/-! A beat of a mount. -/
theorem mode_tab (k : Int) (h0 : 0 ≤ k) (h1 : k ≤ 5) (a b : AxS) : (if (k == 2) = true then (some (a, b, 3)) else (if (k == 4) = true then (some (a, b, 0)) else (if (k == 5) = true then (some (a, b, 1)) else (some (a, b, k))))) = (some (a, b, ([0, 1, 3, 3, 0, 1] : List Int).getD k.toNat 0) : Option MtS) := by
  have : k = 0 ∨ k = 1 ∨ k = 2 ∨ k = 3 ∨ k = 4 ∨ k = 5 := by omega
  rcases this with rfl | rfl | rfl | rfl | rfl | rfl <;> rfl
theorem mount_step (m1 x1 s1 a1 m2 x2 s2 a2 k1 k2 p v g p' v' g' k : Int) (h h' : Bool) :
    (mount_Check ((m1, x1, s1, a1), (m2, x2, s2, a2), k1, k2) ((p, v, g, h), (p', v', g', h'), k) = some 0 → ∃ r, mount_Step ((m1, x1, s1, a1), (m2, x2, s2, a2), k1, k2) ((p, v, g, h), (p', v', g', h'), k) = some r ∧ spyref2_MountStep ((m1, x1, s1, a1), (m2, x2, s2, a2), k1, k2) ((p, v, g, h), (p', v', g', h'), k) = some r) := by
  intro hk
  obtain ⟨e, e1, e2, e3⟩ := mount_same m1 x1 s1 a1 m2 x2 s2 a2 k1 k2 p v g p' v' g' k h h'
  rw [hk] at e1
  injection e1 with e1
  obtain ⟨c1, o1, q1, c2, o2, q2, l0, l5, _⟩ := e3 e1.symm
  obtain ⟨w, w1, w2, _⟩ := step_same o1 c1 q1
  obtain ⟨w', w1', w2', _⟩ := step_same o2 c2 q2
  rw [mount_Step_eq, hk, bind_some_, if_neg (by simp), spyref2_MountStep_eq]
  simp only [w1, w2, w1', w2', bind_some_]
  generalize moved p w g h = S1
  generalize moved p' w' g' h' = S2
  obtain ⟨b1, b2, b3, b4⟩ := S1
  obtain ⟨d1, d2, d3, d4⟩ := S2
  rw [(rest_eq b1 b2 b3 b4).1, (rest_eq b1 b2 b3 b4).2, (rest_eq d1 d2 d3 d4).1, (rest_eq d1 d2 d3 d4).2]
  simp only [bind_some_]
  have l6 : k < 6 := by omega
  generalize (decide (b2 = 0 ∧ b1 = b3) && !b4) = B1
  generalize (decide (d2 = 0 ∧ d1 = d3) && !d4) = B2
  refine ⟨((b1, b2, b3, b4), (d1, d2, d3, d4), if (B1 && B2) = true then ([0, 1, 3, 3, 0, 1] : List Int).getD k.toNat 0 else k), ?_, ?_⟩
  · cases B1 <;> cases B2
    · rfl
    · rfl
    · rfl
    · exact mode_tab k l0 l5 _ _
  · cases B1 <;> cases B2
    · rfl
    · rfl
    · rfl
    · exact (if_pos rfl).trans ((if_pos rfl).trans ((if_pos l0).trans (if_pos l6)))
/-! A beat of a dome. -/
theorem p11_same {p v g w : Int} {h : Bool} (a b : Int) (s3 s4 : Bool) (z : DmS) (w1 : axis_Step ((-8589934592), 8589934592, 33554432, 4194304) (p, v, g, h) = some (moved p w g h)) : dome_Step.p11 (a, b, s3, s4, p, v, g, h) z = some (a, b, s3, s4, moved p w g h) := by
  rw [dome_Step.p11_eq, dome_Axis_eq, bind_some_]
  simp only []
  rw [w1]
  rfl
theorem p16_same {p v g w : Int} {h : Bool} (a b : Int) (s3 s4 : Bool) (z : DmS) (w1 : spyref2_AxisStep ((-8589934592), 8589934592, 33554432, 4194304) (p, v, g, h) = some (moved p w g h)) : spyref2_DomeStep.p16 (a, b, s3, s4, p, v, g, h) z = some (a, b, s3, s4, moved p w g h) := by
  rw [spyref2_DomeStep.p16_eq, spyref2_Turner_eq, bind_some_]
  simp only []
  rw [w1]
  rfl
theorem p7_same {p v g w : Int} {h : Bool} (a b : Int) (s3 s4 : Bool) (z : DmS) (a0 : 0 ≤ a) (a1 : a ≤ 100) (w1 : axis_Step ((-8589934592), 8589934592, 33554432, 4194304) (p, v, g, h) = some (moved p w g h)) (w2 : spyref2_AxisStep ((-8589934592), 8589934592, 33554432, 4194304) (p, v, g, h) = some (moved p w g h)) : ∃ r, dome_Step.p7 (a, b, s3, s4, p, v, g, h) z = some r ∧ spyref2_DomeStep.p8 (a, b, s3, s4, p, v, g, h) z = some r := by
  rw [dome_Step.p7_eq, spyref2_DomeStep.p8_eq]
  simp only [dt, eq_t]
  rw [wi (x := a + 4) (by omega) (by omega), wi (x := a - 5) (by omega) (by omega)]
  cases s3 with
  | true =>
    rw [if_pos rfl, if_pos rfl]
    by_cases c : 100 < a + 4
    · rw [if_pos c, if_pos c]
      exact ⟨_, p11_same _ _ _ _ _ w1, p16_same _ _ _ _ _ w2⟩
    · rw [if_neg c, if_neg c]
      exact ⟨_, p11_same _ _ _ _ _ w1, p16_same _ _ _ _ _ w2⟩
  | false =>
    have ft : ¬ (false = true) := by simp
    rw [if_neg ft, if_neg ft]
    by_cases d : b = 0
    · rw [if_pos d, if_pos d]
      by_cases c : a - 5 < 0
      · rw [if_pos c, if_pos c]
        exact ⟨_, p11_same _ _ _ _ _ w1, p16_same _ _ _ _ _ w2⟩
      · rw [if_neg c, if_neg c]
        exact ⟨_, p11_same _ _ _ _ _ w1, p16_same _ _ _ _ _ w2⟩
    · rw [if_neg d, if_neg d]
      exact ⟨_, p11_same _ _ _ _ _ w1, p16_same _ _ _ _ _ w2⟩
theorem dome_step (a b p v g : Int) (s3 s4 h : Bool) (hk : dome_Check (a, b, s3, s4, p, v, g, h) = some 0) : ∃ r, dome_Step (a, b, s3, s4, p, v, g, h) = some r ∧ spyref2_DomeStep (a, b, s3, s4, p, v, g, h) = some r := by
  obtain ⟨e, e1, e2, e3⟩ := dome_same a b p v g s3 s4 h
  rw [hk] at e1
  injection e1 with e1
  obtain ⟨a0, a1, b0, b1, _, c1, o1, q1⟩ := e3 e1.symm
  obtain ⟨w, w1, w2, _⟩ := step_same o1 c1 q1
  rw [dome_Step_eq, hk, bind_some_, if_neg (by simp), spyref2_DomeStep_eq]
  have slow : ∃ r, dome_Step.p6 (a, b, s3, s4, p, v, g, h) (0, 0, false, false, 0, 0, 0, false) = some r ∧ spyref2_DomeStep.p2 false (a, b, s3, s4, p, v, g, h) (0, 0, false, false, 0, 0, 0, false) = some r := by
    rw [dome_Step.p6_eq, spyref2_DomeStep.p2_eq, if_neg (show ¬ (false = true) by simp), spyref2_DomeStep.p4_eq, if_pos (show (!false) = true from rfl)]
    simp only [dt]
    rw [wi (x := b - 2) (by omega) (by omega)]
    by_cases c : b - 2 < 0
    · rw [if_pos c, if_pos c]
      exact p7_same _ _ _ _ _ a0 a1 w1 w2
    · rw [if_neg c, if_neg c]
      exact p7_same _ _ _ _ _ a0 a1 w1 w2
  cases s3 with
  | false =>
    cases s4 with
    | false => exact slow
    | true => exact slow
  | true =>
    cases s4 with
    | false => exact slow
    | true =>
      simp only [if_true, eq_t]
      rw [spyref2_DomeStep.p2_eq, if_pos (show true = true from rfl)]
      simp only [eq_t, dt]
      rw [wi (x := b + 1) (by omega) (by omega)]
      by_cases c : a = 100
      · rw [if_pos c, if_pos c]
        by_cases d : b < 20
        · rw [if_pos d, if_neg (show ¬ 20 < b + 1 by omega), spyref2_DomeStep.p4_eq, if_neg (show ¬ ((!true) = true) by simp)]
          exact p7_same _ _ _ _ _ a0 a1 w1 w2
        · rw [if_neg d, if_pos (show 20 < b + 1 by omega), spyref2_DomeStep.p4_eq, if_neg (show ¬ ((!true) = true) by simp)]
          have : b = 20 := by omega
          subst this
          exact p7_same _ _ _ _ _ a0 a1 w1 w2
      · rw [if_neg c, if_neg c, spyref2_DomeStep.p4_eq, if_neg (show ¬ ((!true) = true) by simp)]
        exact p7_same _ _ _ _ _ a0 a1 w1 w2
/-! Orders to a mount. -/
abbrev MtM := (Int × Int × Int × Int) × (Int × Int × Int × Int) × Int × Int
abbrev MtZ : MtS := ((0, 0, 0, false), (0, 0, 0, false), 0)
theorem send_same {m1 x1 s1 a1 m2 x2 s2 a2 k1 k2 p v g p' v' g' k : Int} {h h' : Bool} (q1 : axis_Check (m1, x1, s1, a1) (p, v, g, h) = some 0) (q2 : axis_Check (m2, x2, s2, a2) (p', v', g', h') = some 0) (t : Int × Int) (mode : Int) :
    ∃ r, mount_send ((m1, x1, s1, a1), (m2, x2, s2, a2), k1, k2) ((p, v, g, h), (p', v', g', h'), k) t mode = some r ∧ spyref2_MountSend ((m1, x1, s1, a1), (m2, x2, s2, a2), k1, k2) ((p, v, g, h), (p', v', g', h'), k) t mode = some r := by
  rw [mount_send_eq, spyref2_MountSend_eq, axis_Send_eq, axis_Send_eq, q1, q2, within_eq, within_eq]
  simp only [bind_some_, in_eq, ne_t, not_f, not_t, dt, df]
  by_cases c : m1 ≤ t.1 ∧ t.1 ≤ x1
  · by_cases d : m2 ≤ t.2 ∧ t.2 ≤ x2
    · refine ⟨(((p, v, t.1, false), (p', v', t.2, false), mode), 0), ?_, ?_⟩
      · simp [c, d]
      · simp [c, d]
    · refine ⟨(MtZ, 4), ?_, ?_⟩
      · simp [c, d]
      · simp [c, d]
  · refine ⟨(MtZ, 4), ?_, ?_⟩
    · simp [c]
    · simp [c]
theorem order_same (m : MtM) (s : MtS) (t : Int × Int) :
    (∃ r, mount_Goto m s t = some r ∧ spyref2_MountOrder m s 0 t = some r) ∧ (∃ r, mount_Park m s = some r ∧ spyref2_MountOrder m s 1 t = some r) ∧ (∃ r, mount_Follow m s t = some r ∧ spyref2_MountOrder m s 2 t = some r) ∧ (∃ r, mount_Stop m s = some r ∧ spyref2_MountOrder m s 3 t = some r) := by
  obtain ⟨⟨m1, x1, s1, a1⟩, ⟨m2, x2, s2, a2⟩, k1, k2⟩ := m
  obtain ⟨⟨p, v, g, h⟩, ⟨p', v', g', h'⟩, k⟩ := s
  obtain ⟨e, e1, e2, e3⟩ := mount_same m1 x1 s1 a1 m2 x2 s2 a2 k1 k2 p v g p' v' g' k h h'
  rw [mount_Goto_eq, mount_Park_eq, mount_Follow_eq, mount_Stop_eq]
  simp only [spyref2_MountOrder_eq, e1, e2, bind_some_, ne_t, eq_t, bind_id]
  by_cases c : e = 0
  · subst c
    obtain ⟨c1, o1, q1, c2, o2, q2, l0, l5, _⟩ := e3 rfl
    have go := fun t mode => send_same (k1 := k1) (k2 := k2) (k := k) q1 q2 t mode
    simp only [spyref2_MountOrder.p7_eq, spyref2_MountOrder.p12_eq, mount_far_eq, axis_Brake_eq, q1, q2, bind_some_, bind_id, eq_t, ne_t, ne_eq, not_true_eq_false, if_false, if_true, Int.reduceEq, dt, df, not_false_eq_true, not_f]
    refine ⟨?_, ?_, ?_, ?_⟩
    · by_cases c5 : k = 5
      · exact ⟨_, by rw [if_pos c5], by rw [if_pos c5]⟩
      · obtain ⟨r, r1, r2⟩ := go t 2
        exact ⟨r, by rw [if_neg c5, r1], by rw [if_neg c5, r2]⟩
    · by_cases c5 : k = 5
      · exact ⟨_, by rw [if_pos c5], by rw [if_pos c5]⟩
      · obtain ⟨r, r1, r2⟩ := go (k1, k2) 4
        exact ⟨r, by rw [if_neg c5, r1], by rw [if_neg c5, r2]⟩
    · by_cases c3 : k = 3
      · obtain ⟨r, r1, r2⟩ := go t 3
        simp only [c3, not_true_eq_false, if_false]
        rw [c3] at r1 r2
        by_cases d1 : t.1 > IntKind.i64.wrap (g + 67108864)
        · exact ⟨(MtZ, 16), by simp [d1], by simp [d1]⟩
        · by_cases d2 : t.1 < IntKind.i64.wrap (g - 67108864)
          · exact ⟨(MtZ, 16), by simp [d1, d2], by simp [d1, d2]⟩
          · by_cases d3 : t.2 > IntKind.i64.wrap (g' + 67108864)
            · exact ⟨(MtZ, 16), by simp [d1, d2, d3], by simp [d1, d2, d3]⟩
            · by_cases d4 : t.2 < IntKind.i64.wrap (g' - 67108864)
              · exact ⟨(MtZ, 16), by simp [d1, d2, d3, d4], by simp [d1, d2, d3, d4]⟩
              · exact ⟨r, by simp [d1, d2, d3, d4, r1], by simp [d1, d2, d3, d4, r2]⟩
      · exact ⟨(MtZ, 10), by simp [c3], by simp [c3]⟩
    · by_cases c0 : k = 0
      · exact ⟨_, by rw [if_pos c0], by simp [c0]⟩
      · exact ⟨_, by rw [if_neg c0], by simp [c0]⟩
  · refine ⟨⟨(MtZ, e), ?_, ?_⟩, ⟨(MtZ, e), ?_, ?_⟩, ⟨(MtZ, e), ?_, ?_⟩, (MtZ, e), ?_, ?_⟩ <;> rw [if_pos c]

end Go.Proofs.Ytmbjpenjcfkaoaa.Pure
