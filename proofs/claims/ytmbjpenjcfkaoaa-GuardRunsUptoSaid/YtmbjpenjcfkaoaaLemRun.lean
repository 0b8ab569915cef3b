/- An order and a beat, both ways. -/
import Derived.Test.YtmbjpenjcfkaoaaEA0
import Derived.Test.YtmbjpenjcfkaoaaEA1
import Derived.Test.YtmbjpenjcfkaoaaEA2
import Derived.Test.YtmbjpenjcfkaoaaEA3
import Derived.Test.YtmbjpenjcfkaoaaEA4
import Derived.Test.YtmbjpenjcfkaoaaPl
import Derived.Test.YtmbjpenjcfkaoaaLemAxis
import Derived.Test.YtmbjpenjcfkaoaaLemAxisS
import Derived.Test.YtmbjpenjcfkaoaaLemMount
import Derived.Test.YtmbjpenjcfkaoaaLemDome
import Derived.Test.YtmbjpenjcfkaoaaLemCam
import Derived.Test.YtmbjpenjcfkaoaaLemMoves
import Derived.Test.YtmbjpenjcfkaoaaLemGuard
import Derived.Test.YtmbjpenjcfkaoaaLemGuardM
import Derived.Test.YtmbjpenjcfkaoaaLemTarget
import Derived.Test.YtmbjpenjcfkaoaaLemTurn
namespace Go.Proofs.Ytmbjpenjcfkaoaa.Pure
set_option linter.unusedVariables false
set_option linter.unusedSimpArgs false
open Go Go.RowKit Go.Proofs.Ytmbjpenjcfkaoaa.Pv Go.Proofs.Ytmbjpenjcfkaoaa.Pl Go.Proofs.Ytmbjpenjcfkaoaa.EA

/-! A beat, both ways. -/
theorem p8_same (m : MtM) (w z : WD) (h : Devs m w) : ∃ r, guard_Step.p8 m w z = some r ∧ spyref2_GuardStep.p8 m w z = some r := by
  obtain ⟨a, a1, a2⟩ := step_mount m w.1 h.mt
  obtain ⟨b, b1, b2⟩ := step_dome w.2.1 h.dm
  obtain ⟨c, c1, c2⟩ := step_cam w.2.2.1 h.cm
  obtain ⟨q, q1, q2⟩ := rest_same (a, b, c, w.2.2.2)
  rw [guard_Step.p8_eq, spyref2_GuardStep.p8_eq, a1, a2, b1, b2, c1, c2]
  simp only [bind_some_, q1, q2, eq_t]
  by_cases k : w.2.2.2.2.2.1 = 1
  · rw [if_pos k]
    cases q with
    | true => exact ⟨_, rfl, rfl⟩
    | false => exact ⟨_, rfl, rfl⟩
  · rw [if_neg k]
    exact ⟨_, rfl, rfl⟩
theorem p6_same (m : MtM) (w z : WD) (s : Bool × Bool × Bool × Bool × Bool) (h : Devs m w) : ∃ r, guard_Step.p6 m w s z = some r ∧ spyref2_GuardStep.p6 m w s z = some r := by
  obtain ⟨a, a1, a2, a3⟩ := lock_same m w h
  rw [guard_Step.p6_eq, spyref2_GuardStep.p6_eq, a1, a2]
  cases s.2.2.2.2 with
  | true => exact p8_same m a z a3
  | false => exact p8_same m w z h
theorem count_same (n : Int) (on : Bool) (h0 : 0 ≤ n) (h1 : n ≤ 17592186044416) : ∃ r, guard_count n on = some r ∧ spyref2_next n on = some r := by
  rw [guard_count_eq, spyref2_next_eq]
  simp only [dt]
  rw [wi (x := n + 1) (by omega) (by omega)]
  cases on with
  | false => exact ⟨0, rfl, rfl⟩
  | true =>
    by_cases k : n < 17592186044416
    · exact ⟨n + 1, by simp; omega, by simp [k]⟩
    · exact ⟨n, by simp; omega, by simp [k]⟩
theorem guard_step (m : MtM) (w : WD) (s : Bool × Bool × Bool × Bool × Bool) : ∃ r, guard_Step m w s = some r ∧ spyref2_GuardStep m w s = some r := by
  obtain ⟨e, e1, e2, e3⟩ := world_same m w
  obtain ⟨hz, hz1, hz2⟩ := hazard_same s
  rw [guard_Step_eq, spyref2_GuardStep_eq, e1, e2, bind_some_, bind_some_]
  by_cases c : e = 0
  · have nc : ¬ ((e != 0) = true) := by rw [ne_t]; omega
    have ok := e3 c
    obtain ⟨i, i1, i2⟩ := count_same w.2.2.2.2.2.2.1 hz ok.bd.2.2.1 ok.bd.2.2.2.1
    obtain ⟨j, j1, j2⟩ := count_same w.2.2.2.2.2.2.2 s.2.2.2.2 ok.bd.2.2.2.2.1 ok.bd.2.2.2.2.2
    have dv : Devs m (w.1, w.2.1, w.2.2.1, s, w.2.2.2.2.1, w.2.2.2.2.2.1, i, j) := ⟨ok.mt, ok.dm, ok.cm⟩
    rw [if_neg nc, if_neg nc, hz1, hz2]
    simp only [bind_some_, i1, i2, j1, j2, eq_t]
    have p6 := p6_same m (w.1, w.2.1, w.2.2.1, s, w.2.2.2.2.1, w.2.2.2.2.2.1, i, j) (((0, 0, 0, false), (0, 0, 0, false), 0), (0, 0, false, false, 0, 0, 0, false), (0, 0, 0, 0), (false, false, false, false, false), (0, 0), 0, 0, 0) s dv
    cases hz with
    | false =>
      by_cases k : w.2.2.2.2.2.1 = 0
      · rw [if_pos k]
        exact p6
      · rw [if_neg k]
        exact p6
    | true =>
      by_cases k : w.2.2.2.2.2.1 = 0
      · obtain ⟨a, a1, a2, a3⟩ := begin_same m _ dv
        rw [a1, a2]
        simp only [if_pos k, if_true, bind_some_]
        exact p6_same m a _ s a3
      · simp only [if_neg k, if_true]
        exact p6
  · have nc : (e != 0) = true := by rw [ne_t]; exact c
    exact ⟨w, by rw [if_pos nc], by rw [if_pos nc]⟩
/-! An order, both ways. -/
theorem rotate_same (m : MtM) (w : WD) (ok : WOk m w) (az : Int) (haz : (Lit.int .i64 az).wf = true) : ∃ t, dome_Rotate w.2.1 az = some ((w.2.1.1, w.2.1.2.1, w.2.1.2.2.1, w.2.1.2.2.2.1, w.2.1.2.2.2.2.1, w.2.1.2.2.2.2.2.1, t, false), 0) ∧ spyref2_Target ((-8589934592), 8589934592, 33554432, 4194304) w.2.1.2.2.2.2.1 az = some (t, 0) := by
  obtain ⟨mt, ⟨a, b, s3, s4, p, v, g, h⟩, rest⟩ := w
  obtain ⟨e, e1, e2, e3⟩ := dome_same a b p v g s3 s4 h
  have hk : dome_Check (a, b, s3, s4, p, v, g, h) = some 0 := ok.dm
  rw [hk] at e1
  injection e1 with e1
  obtain ⟨a0, a1, b0, b1, _, c1, o1, q1⟩ := e3 e1.symm
  obtain ⟨r, r1, r2, r3⟩ := target_all (-8589934592) 8589934592 33554432 4194304 p az haz
  obtain ⟨t, ht⟩ := turn_target o1.p0 o1.p1 haz
  rw [r1] at ht
  cases ht
  obtain ⟨_, _, _, t0, t1⟩ := r3 rfl
  refine ⟨t, ?_, r2⟩
  rw [dome_Rotate_eq]
  simp only []
  rw [hk, bind_some_, if_neg (by simp), dome_Axis_eq, bind_some_, r1, bind_some_, if_neg (by simp), bind_some_, send_of q1 t0 t1]
  rfl
/-- What an order comes to: a world that nothing was done to is not shown. -/
def N (r : WD × Int) : Option (WD × Int) := if (r.2 != 0) = true then some ((((0, 0, 0, false), (0, 0, 0, false), 0), (0, 0, false, false, 0, 0, 0, false), (0, 0, 0, 0), (false, false, false, false, false), (0, 0), 0, 0, 0), r.2) else some (r.1, 0)
theorem N_some (r : WD × Int) : (N r).isSome = true := by
  unfold N
  split <;> rfl
theorem expose_same (m : MtM) (w : WD) (a : Int) (ok : WOk m w) (z : WD) : ((guard_expose w a).bind N = (if w.2.1.1 = 100 then (if w.2.1.2.1 = 20 then (if w.2.1.2.2.1 = true then (spyref2_done.p27 0 w.2.1.2.2.2.1 w (9, a) z) else (spyref2_done.p27 0 false w (9, a) z)) else (spyref2_done.p27 0 false w (9, a) z)) else (spyref2_done.p27 0 false w (9, a) z)).bind N) ∧ ((guard_expose w a).bind N).isSome = true := by
  rw [guard_expose_eq, dome_Clear_eq, covers_same, camera_Expose_eq, ok.cm]
  obtain ⟨c, hc⟩ : ∃ c, spyref2_SlitCovers w.2.1 w.1.1.1 = some c := by
    rw [spyref2_SlitCovers_eq]
    split <;> exact ⟨_, rfl⟩
  simp only [spyref2_done.p27_eq, hc, bind_some_, eq_t, ne_t, ne_f, dt, df, not_t, not_f]
  generalize IntKind.i64.wrap (w.2.2.1.2.2.2 + 1) = n1
  by_cases b0 : a < 1
  · by_cases d1 : w.2.1.1 = 100 <;> by_cases d2 : w.2.1.2.1 = 20 <;> by_cases d3 : w.2.1.2.2.1 = true <;> simp [b0, d1, d2, d3, N]
  · by_cases b1 : a > 16
    · by_cases d1 : w.2.1.1 = 100 <;> by_cases d2 : w.2.1.2.1 = 20 <;> by_cases d3 : w.2.1.2.2.1 = true <;> simp [b0, b1, d1, d2, d3, N]
    · by_cases k3 : w.1.2.2 = 3
      · by_cases d1 : w.2.1.1 = 100
        · by_cases d2 : w.2.1.2.1 = 20
          · by_cases d3 : w.2.1.2.2.1 = true
            · by_cases d4 : w.2.1.2.2.2.1 = true
              · by_cases k1 : w.2.2.1.1 = 0
                · by_cases k2 : w.2.2.1.2.2.2 = 1073741824
                  · cases c <;> simp [b0, b1, k3, d1, d2, d3, d4, k1, k2, N, show ¬ a < 0 by omega]
                  · cases c <;> simp [b0, b1, k3, d1, d2, d3, d4, k1, k2, N, show ¬ a < 0 by omega, show ¬ a = 0 by omega]
                · cases c <;> simp [b0, b1, k3, d1, d2, d3, d4, k1, N]
              · simp [b0, b1, k3, d1, d2, d3, d4, N]
            · simp [b0, b1, k3, d1, d2, d3, N]
          · simp [b0, b1, k3, d1, d2, N]
        · simp [b0, b1, k3, d1, N]
      · by_cases d1 : w.2.1.1 = 100 <;> by_cases d2 : w.2.1.2.1 = 20 <;> by_cases d3 : w.2.1.2.2.1 = true <;> simp [b0, b1, k3, d1, d2, d3, N]
theorem carry_same (m : MtM) (w : WD) (k a : Int) (ok : WOk m w) (ha : (Lit.int .i64 a).wf = true) (h0 : 0 ≤ k) (h1 : k ≤ 13) : (guard_carry m w (k, a)).bind N = (spyref2_done m w (k, a)).bind N ∧ ((guard_carry m w (k, a)).bind N).isSome = true := by
  obtain ⟨⟨g0, g1, g2⟩, ⟨p0, p1, p2⟩, ⟨f0, f1, f2⟩, _⟩ := order_same m w.1 w.2.2.2.2.1
  have dv : Devs m w := ⟨ok.mt, ok.dm, ok.cm⟩
  have hk : k = 0 ∨ k = 1 ∨ k = 2 ∨ k = 3 ∨ k = 4 ∨ k = 5 ∨ k = 6 ∨ k = 7 ∨ k = 8 ∨ k = 9 ∨ k = 10 ∨ k = 11 ∨ k = 12 ∨ k = 13 := by omega
  rcases hk with rfl | rfl | rfl | rfl | rfl | rfl | rfl | rfl | rfl | rfl | rfl | rfl | rfl | rfl <;> simp only [guard_carry_eq, spyref2_done_eq, guard_carry.p5_eq, spyref2_done.p5_eq, guard_carry.p10_eq, guard_carry.p22_eq, spyref2_done.p10_eq, spyref2_done.p22_eq, spyref2_done.p41_eq, eq_t, Int.reduceEq, if_true, if_false, dt, df]
  · by_cases c : a < -17179869184
    · simp [c, N]
    · by_cases d : a > 17179869184
      · simp [c, d, N]
      · simp [c, d, N]
  · by_cases c : a < -17179869184
    · simp [c, N]
    · by_cases d : a > 17179869184
      · simp [c, d, N]
      · simp [c, d, N]
  · rw [g1, g2]
    exact ⟨by first | rfl | trivial, N_some _⟩
  · rw [f1, f2]
    exact ⟨by first | rfl | trivial, N_some _⟩
  · rw [p1, p2]
    exact ⟨by first | rfl | trivial, N_some _⟩
  · obtain ⟨r, r1, r2, _⟩ := stop_mount m w.1 w.2.2.2.2.1 ok.mt
    rw [r1, r2, (brake_dome w.2.1 ok.dm).1]
    exact ⟨by first | rfl | trivial, N_some _⟩
  · rw [(set_dome w.2.1 _ _ ok.dm).1]
    exact ⟨by first | rfl | trivial, N_some _⟩
  · rw [(set_dome w.2.1 _ _ ok.dm).1]
    exact ⟨by first | rfl | trivial, N_some _⟩
  · obtain ⟨t, t1, t2⟩ := rotate_same m w ok a ha
    simp only [t1, spyref2_Turner_eq, bind_some_, t2]
    exact ⟨by first | rfl | trivial, N_some _⟩
  · rw [bind_id]
    exact expose_same m w a ok _
  · rw [camera_Abort_eq, ok.cm, spyref2_done.p38_eq]
    simp only []
    rw [wi (x := 10 - 10) (by omega) (by omega)]
    by_cases c : w.2.2.1.1 = 1
    · simp [c, N]
    · simp [c, N]
  · rw [camera_Fetch_eq, ok.cm, spyref2_done.p38_eq]
    simp only []
    rw [wi (x := 11 - 10) (by omega) (by omega)]
    by_cases c : w.2.2.1.1 = 3
    · simp [c, N]
    · simp [c, N]
  · by_cases c : w.2.2.2.2.2.1 = 0
    · obtain ⟨r, r1, r2, _⟩ := begin_same m w dv
      simp only [if_pos c, r1, r2]
      exact ⟨by first | rfl | trivial, N_some _⟩
    · simp only [if_neg c]
      exact ⟨by first | rfl | trivial, N_some _⟩
  · exact ⟨by first | rfl | trivial, N_some _⟩
theorem p6_give (m : MtM) (w z : WD) (k a : Int) (ok : WOk m w) (ha : (Lit.int .i64 a).wf = true) (h0 : 0 ≤ k) (h1 : k ≤ 13) : guard_Give.p6 m w (k, a) z = spyref2_GuardGive.p6 m w (k, a) z ∧ (guard_Give.p6 m w (k, a) z).isSome = true := by
  obtain ⟨e, s⟩ := carry_same m w k a ok ha h0 h1
  have e1 : guard_Give.p11 m w (k, a) z = (guard_carry m w (k, a)).bind N := guard_Give.p11_eq m w (k, a) z
  rw [guard_Give.p6_eq, spyref2_GuardGive.p6_eq, e1]
  have e2 : ((spyref2_done m w (k, a)).bind fun r1 => if (r1.2 != 0) = true then (some ((((0, 0, 0, false), (0, 0, 0, false), 0), (0, 0, false, false, 0, 0, 0, false), (0, 0, 0, 0), (false, false, false, false, false), (0, 0), 0, 0, 0), r1.2)) else (some (r1.1, 0))) = (guard_carry m w (k, a)).bind N := e.symm
  simp only [e2]
  generalize (guard_carry m w (k, a)).bind N = X at *
  have hk : k = 0 ∨ k = 1 ∨ k = 2 ∨ k = 3 ∨ k = 4 ∨ k = 5 ∨ k = 6 ∨ k = 7 ∨ k = 8 ∨ k = 9 ∨ k = 10 ∨ k = 11 ∨ k = 12 ∨ k = 13 := by omega
  by_cases c : w.2.2.1.1 = 1 <;> by_cases md : w.2.2.2.2.2.1 = 0 <;> by_cases ky : w.2.2.2.2.2.2.2 = 0 <;> rcases hk with rfl | rfl | rfl | rfl | rfl | rfl | rfl | rfl | rfl | rfl | rfl | rfl | rfl | rfl <;> simp only [guard_permitted_eq, guard_permitted.p10_eq, spyref2_allowed_eq, spyref2_allowed.p9_eq, spyref2_allowed.p10_eq, spyref2_allowed.p15_eq, eq_t, eq_f, Int.reduceEq, not_true_eq_false, not_false_eq_true, if_true, if_false, bind_ite, bind_some_, c, md, ky] <;> first | exact ⟨rfl, s⟩ | exact ⟨rfl, rfl⟩ | (simp [c, md, ky, s]; done) | (by_cases q2 : w.2.2.2.2.2.1 = 2 <;> by_cases q3 : w.2.2.2.2.2.2.1 = 0 <;> simp [c, md, ky, q2, q3, s])
theorem give_same (m : MtM) (w : WD) (k a : Int) (ha : (Lit.int .i64 a).wf = true) : ∃ r, guard_Give m w (k, a) = some r ∧ spyref2_GuardGive m w (k, a) = some r := by
  obtain ⟨e, e1, e2, e3⟩ := world_same m w
  have main : guard_Give m w (k, a) = spyref2_GuardGive m w (k, a) ∧ (guard_Give m w (k, a)).isSome = true := by
    rw [guard_Give_eq, spyref2_GuardGive_eq, e1, e2, bind_some_, bind_some_]
    by_cases c : e = 0
    · have nc : ¬ ((e != 0) = true) := by rw [ne_t]; omega
      rw [if_neg nc, if_neg nc]
      simp only [guard_uses_eq, spyref2_In_eq, bind_ite, bind_some_, dt, df, eq_f, ne_t, not_t, not_f]
      by_cases h0 : 0 ≤ k
      · by_cases h1 : k ≤ 13
        · obtain ⟨q, s⟩ := p6_give m w (((0, 0, 0, false), (0, 0, 0, false), 0), (0, 0, false, false, 0, 0, 0, false), (0, 0, 0, 0), (false, false, false, false, false), (0, 0), 0, 0, 0) k a (e3 c) ha h0 h1
          rw [q] at s ⊢
          by_cases k0 : k = 0
          · simp [k0] at s ⊢
            simp [s]
          · by_cases k1 : k = 1
            · simp [k1] at s ⊢
              simp [s]
            · by_cases k8 : k = 8
              · simp [k8] at s ⊢
                simp [s]
              · by_cases k9 : k = 9
                · simp [k9] at s ⊢
                  simp [s]
                · by_cases a0 : a = 0
                  · simp [k0, k1, k8, k9, a0, h0, h1, show ¬ k < 0 by omega, show ¬ k ≥ 14 by omega] at s ⊢
                    simp [s]
                  · simp [k0, k1, k8, k9, a0, h0, h1, show ¬ k < 0 by omega, show ¬ k ≥ 14 by omega]
        · simp [h0, h1, show ¬ k < 0 by omega, show k ≥ 14 by omega]
      · simp [h0, show k < 0 by omega]
    · have nc : (e != 0) = true := by rw [ne_t]; exact c
      rw [if_pos nc, if_pos nc]
      exact ⟨rfl, rfl⟩
  obtain ⟨q, s⟩ := main
  obtain ⟨r, hr⟩ := Option.isSome_iff_exists.1 s
  exact ⟨r, hr, q ▸ hr⟩

end Go.Proofs.Ytmbjpenjcfkaoaa.Pure
