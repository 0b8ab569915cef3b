/- MountOrders: the pure statement, proved. -/
import Derived.Test.YtchmfnmnijhjfaaEA0
import Derived.Test.YtchmfnmnijhjfaaEA1
import Derived.Test.YtchmfnmnijhjfaaEA2
import Derived.Test.YtchmfnmnijhjfaaEA3
import Derived.Test.YtchmfnmnijhjfaaEA4
import Derived.Test.YtchmfnmnijhjfaaPl
import Derived.Test.YtchmfnmnijhjfaaLemAxis
import Derived.Test.YtchmfnmnijhjfaaLemAxisS
import Derived.Test.YtchmfnmnijhjfaaLemMount
namespace Go.Proofs.Ytchmfnmnijhjfaa.Pure
set_option linter.unusedVariables false
set_option linter.unusedSimpArgs false
open Go Go.RowKit Go.Proofs.Ytchmfnmnijhjfaa.Pv Go.Proofs.Ytchmfnmnijhjfaa.Pl Go.Proofs.Ytchmfnmnijhjfaa.EA

abbrev MtM := (Int × Int × Int × Int) × (Int × Int × Int × Int) × Int × Int
abbrev MtZ : MtS := ((0, 0, 0, false), (0, 0, 0, false), 0)
theorem send_same {m1 x1 s1 a1 m2 x2 s2 a2 k1 k2 p v g p' v' g' k : Int} {h h' : Bool} (q1 : axis_Check (m1, x1, s1, a1) (p, v, g, h) = some 0) (q2 : axis_Check (m2, x2, s2, a2) (p', v', g', h') = some 0) (t : Int × Int) (mode : Int) :
    ∃ r, mount_send ((m1, x1, s1, a1), (m2, x2, s2, a2), k1, k2) ((p, v, g, h), (p', v', g', h'), k) t mode = some r ∧ spyref2_MountSend ((m1, x1, s1, a1), (m2, x2, s2, a2), k1, k2) ((p, v, g, h), (p', v', g', h'), k) t mode = some r := by
  rw [mount_send_eq, spyref2_MountSend_eq, axis_Send_eq, axis_Send_eq, q1, q2, within_eq, within_eq]
  simp only [bind_some_, in_eq, ne_t, not_f, not_t, dt, df]
  by_cases c : m1 ≤ t.1 ∧ t.1 ≤ x1
  · by_cases d : m2 ≤ t.2 ∧ t.2 ≤ x2
    · refine ⟨(((p, v, t.1, false), (p', v', t.2, false), mode), 0), ?_, ?_⟩
      · simp [c, d]
      · simp [c, d]
    · refine ⟨(MtZ, 4), ?_, ?_⟩
      · simp [c, d]
      · simp [c, d]
  · refine ⟨(MtZ, 4), ?_, ?_⟩
    · simp [c]
    · simp [c]
theorem order_same (m : MtM) (s : MtS) (t : Int × Int) :
    (∃ r, mount_Goto m s t = some r ∧ spyref2_MountOrder m s 0 t = some r) ∧ (∃ r, mount_Park m s = some r ∧ spyref2_MountOrder m s 1 t = some r) ∧ (∃ r, mount_Follow m s t = some r ∧ spyref2_MountOrder m s 2 t = some r) ∧ (∃ r, mount_Stop m s = some r ∧ spyref2_MountOrder m s 3 t = some r) := by
  obtain ⟨⟨m1, x1, s1, a1⟩, ⟨m2, x2, s2, a2⟩, k1, k2⟩ := m
  obtain ⟨⟨p, v, g, h⟩, ⟨p', v', g', h'⟩, k⟩ := s
  obtain ⟨e, e1, e2, e3⟩ := mount_same m1 x1 s1 a1 m2 x2 s2 a2 k1 k2 p v g p' v' g' k h h'
  rw [mount_Goto_eq, mount_Park_eq, mount_Follow_eq, mount_Stop_eq]
  simp only [spyref2_MountOrder_eq, e1, e2, bind_some_, ne_t, eq_t, bind_id]
  by_cases c : e = 0
  · subst c
    obtain ⟨c1, o1, q1, c2, o2, q2, l0, l5, _⟩ := e3 rfl
    have go := fun t mode => send_same (k1 := k1) (k2 := k2) (k := k) q1 q2 t mode
    simp only [spyref2_MountOrder.p7_eq, spyref2_MountOrder.p12_eq, mount_far_eq, axis_Brake_eq, q1, q2, bind_some_, bind_id, eq_t, ne_t, ne_eq, not_true_eq_false, if_false, if_true, Int.reduceEq, dt, df, not_false_eq_true, not_f]
    refine ⟨?_, ?_, ?_, ?_⟩
    · by_cases c5 : k = 5
      · exact ⟨_, by rw [if_pos c5], by rw [if_pos c5]⟩
      · obtain ⟨r, r1, r2⟩ := go t 2
        exact ⟨r, by rw [if_neg c5, r1], by rw [if_neg c5, r2]⟩
    · by_cases c5 : k = 5
      · exact ⟨_, by rw [if_pos c5], by rw [if_pos c5]⟩
      · obtain ⟨r, r1, r2⟩ := go (k1, k2) 4
        exact ⟨r, by rw [if_neg c5, r1], by rw [if_neg c5, r2]⟩
    · by_cases c3 : k = 3
      · obtain ⟨r, r1, r2⟩ := go t 3
        simp only [c3, not_true_eq_false, if_false]
        rw [c3] at r1 r2
        by_cases d1 : t.1 > IntKind.i64.wrap (g + 67108864)
        · exact ⟨(MtZ, 16), by simp [d1], by simp [d1]⟩
        · by_cases d2 : t.1 < IntKind.i64.wrap (g - 67108864)
          · exact ⟨(MtZ, 16), by simp [d1, d2], by simp [d1, d2]⟩
          · by_cases d3 : t.2 > IntKind.i64.wrap (g' + 67108864)
            · exact ⟨(MtZ, 16), by simp [d1, d2, d3], by simp [d1, d2, d3]⟩
            · by_cases d4 : t.2 < IntKind.i64.wrap (g' - 67108864)
              · exact ⟨(MtZ, 16), by simp [d1, d2, d3, d4], by simp [d1, d2, d3, d4]⟩
              · exact ⟨r, by simp [d1, d2, d3, d4, r1], by simp [d1, d2, d3, d4, r2]⟩
      · exact ⟨(MtZ, 10), by simp [c3], by simp [c3]⟩
    · by_cases c0 : k = 0
      · exact ⟨_, by rw [if_pos c0], by simp [c0]⟩
      · exact ⟨_, by rw [if_neg c0], by simp [c0]⟩
  · refine ⟨⟨(MtZ, e), ?_, ?_⟩, ⟨(MtZ, e), ?_, ?_⟩, ⟨(MtZ, e), ?_, ?_⟩, (MtZ, e), ?_, ?_⟩ <;> rw [if_pos c]
theorem p14_step {m : MtM} {s : MtS} {t : Int × Int} {i : Int} {r : MtS × Int} (h : spyref2_MountOrder m s i t = some r) : spylaw2_MountOrders.p14 i r.2 i m s t r.1 = spylaw2_MountOrders.p4 (IntKind.i64.wrap (i + 1)) m s t := by
  rw [spylaw2_MountOrders.p14_eq, h, bind_some_, if_pos (by simp), if_neg (by simp)]
theorem MountOrders : ∀ (x0 : (Int × Int × Int × Int) × (Int × Int × Int × Int) × Int × Int) (x1 : (Int × Int × Int × Bool) × (Int × Int × Int × Bool) × Int) (x2 : Int × Int), goodT Try.prog (.prod (.prod (.int .i64) (.prod (.int .i64) (.prod (.int .i64) (.int .i64)))) (.prod (.prod (.int .i64) (.prod (.int .i64) (.prod (.int .i64) (.int .i64)))) (.prod (.int .i64) (.int .i64)))) x0 → goodT Try.prog (.prod (.prod (.int .i64) (.prod (.int .i64) (.prod (.int .i64) .bool))) (.prod (.prod (.int .i64) (.prod (.int .i64) (.prod (.int .i64) .bool))) (.int .i64))) x1 → goodT Try.prog (.prod (.int .i64) (.int .i64)) x2 → spylaw2_MountOrders x0 x1 x2 = some true := by
  intro m s t _ _ _
  obtain ⟨⟨r0, a0, b0⟩, ⟨r1, a1, b1⟩, ⟨r2, a2, b2⟩, ⟨r3, a3, b3⟩⟩ := order_same m s t
  rw [spylaw2_MountOrders_eq, mounts_true, bind_some_, if_neg (by simp)]
  rw [spylaw2_MountOrders.p4_eq, if_pos (by simp), a0, bind_some_, if_neg (by simp), if_neg (by simp), if_neg (by simp), p14_step b0, wi (by omega) (by omega)]
  rw [spylaw2_MountOrders.p4_eq, if_pos (by simp), a0, bind_some_, if_pos (by simp), a1, bind_some_]
  rw [show (0 : Int) + 1 = 1 from rfl, p14_step b1, wi (by omega) (by omega)]
  rw [spylaw2_MountOrders.p4_eq, if_pos (by simp), a0, bind_some_, if_neg (by simp), if_pos (by simp), a2, bind_some_]
  rw [show (1 : Int) + 1 = 2 from rfl, p14_step b2, wi (by omega) (by omega)]
  rw [spylaw2_MountOrders.p4_eq, if_pos (by simp), a0, bind_some_, if_neg (by simp), if_neg (by simp), if_pos (by simp), a3, bind_some_]
  rw [show (2 : Int) + 1 = 3 from rfl, p14_step b3, wi (by omega) (by omega)]
  rw [spylaw2_MountOrders.p4_eq, if_neg (by simp)]

end Go.Proofs.Ytchmfnmnijhjfaa.Pure
