/- AxisRuns: the pure statement, proved. -/
import Derived.Test.YtchmfnmnijhjfaaEA0
import Derived.Test.YtchmfnmnijhjfaaEA1
import Derived.Test.YtchmfnmnijhjfaaEA2
import Derived.Test.YtchmfnmnijhjfaaEA3
import Derived.Test.YtchmfnmnijhjfaaPl
import Derived.Test.YtchmfnmnijhjfaaLemAxis
import Derived.Test.YtchmfnmnijhjfaaLemAxisS
import Derived.Test.YtchmfnmnijhjfaaLemAxisR
namespace Go.Proofs.Ytchmfnmnijhjfaa.Pure
set_option linter.unusedVariables false
set_option linter.unusedSimpArgs false
open Go Go.RowKit Go.Proofs.Ytchmfnmnijhjfaa.Pv Go.Proofs.Ytchmfnmnijhjfaa.Pl Go.Proofs.Ytchmfnmnijhjfaa.EA

theorem moves_true : spylaw2_moves = some true := callL_some.2 ⟨200, by kernel_rfl⟩
theorem equal_states (a b : List AxS) (hb : a.length < 9223372036854775807) : slices_Equal_axis_State a b = some (decide (a = b)) := by
  rw [slices_Equal_axis_State_eq]
  by_cases h : a.length = b.length
  · rw [if_neg (by rw [ne_t]; omega)]
    refine equal_run (0, 0, 0, false) (fun x y => (x.1 == y.1) && ((x.2.1 == y.2.1) && ((x.2.2.1 == y.2.2.1) && (x.2.2.2 == y.2.2.2)))) (fun x y => ?_) a b h hb (fun i => slices_Equal_axis_State.p4 a b (a.length : Int) i) (fun i => ?_)
    · obtain ⟨x1, x2, x3, x4⟩ := x
      obtain ⟨y1, y2, y3, y4⟩ := y
      simp
    · exact slices_Equal_axis_State.p4_eq ..
  · rw [if_pos (by rw [ne_t]; omega)]
    have : a ≠ b := fun e => h (by rw [e])
    simp [this]
/-- Both runs: the states are equal, one after the other. -/
theorem run_same {mn_ mx sp ac most : Int} (hm : most ≤ 4096) (l : List AxS) (e : Int) : ∀ (n : Nat) (s : AxS) (out : List AxS), Valid mn_ mx sp ac s → most - (out.length : Int) ≤ n → out.length ≤ 4096 →
    ∃ r, axis_Run.p7 most (mn_, mx, sp, ac) s out = some (r, 0) ∧ r.length ≤ 4096 ∧ spylaw2_AxisRuns.p10 most l e (mn_, mx, sp, ac) s out = spylaw2_AxisRuns.p13 l e r := by
  intro n
  induction n with
  | zero =>
    intro s out _ h0 h1
    rw [axis_Run.p7_eq, spylaw2_AxisRuns.p10_eq]
    simp only [dt]
    rw [if_neg (by omega), if_neg (by omega)]
    exact ⟨out, rfl, h1, rfl⟩
  | succ n ih =>
    intro s out hv h0 h1
    rw [axis_Run.p7_eq, spylaw2_AxisRuns.p10_eq]
    simp only [dt]
    by_cases c : (out.length : Int) < most
    · rw [if_pos c, if_pos c]
      obtain ⟨p, v, g, hlt⟩ := s
      obtain ⟨t1, t2⟩ := rest_eq p v g hlt
      rw [t1, t2, bind_some_, bind_some_]
      cases (decide (v = 0 ∧ p = g) && !hlt) with
      | true => exact ⟨out, rfl, h1, rfl⟩
      | false =>
        obtain ⟨s', e1, e2, e3⟩ := valid_step hv
        have nt : (!false) = true := rfl
        rw [if_pos nt, if_pos nt, e1, e2, bind_some_, bind_some_, if_pos (by omega), if_pos (by omega)]
        exact ih s' (out ++ [s']) e3 (by rw [List.length_append, List.length_singleton]; omega) (by rw [List.length_append, List.length_singleton]; omega)
    · rw [if_neg c, if_neg c]
      exact ⟨out, rfl, h1, rfl⟩
theorem AxisRuns : ∀ (x0 : Int × Int × Int × Int) (x1 : Int × Int × Int × Bool) (x2 : Int), goodT Try.prog (.prod (.int .i64) (.prod (.int .i64) (.prod (.int .i64) (.int .i64)))) x0 → goodT Try.prog (.prod (.int .i64) (.prod (.int .i64) (.prod (.int .i64) .bool))) x1 → goodT Try.prog (.int .i64) x2 → spylaw2_AxisRuns x0 x1 x2 = some true := by
  rintro ⟨mn_, mx, sp, ac⟩ ⟨p, v, g, hlt⟩ most _ _ _
  rw [spylaw2_AxisRuns_eq, moves_true, bind_some_, if_neg (by simp), axis_Run_eq]
  obtain ⟨e, e1, e2, e3, _⟩ := state_same mn_ mx sp ac p v g hlt
  rw [e1, bind_some_, e2]
  simp only [bind_some_, ne_t, eq_t, spyref2_In_eq, dt, df]
  by_cases c : e = 0
  · subst c
    simp only [ne_eq, not_true_eq_false, if_false, if_true]
    by_cases k : 0 ≤ most
    · by_cases k2 : most ≤ 4096
      · obtain ⟨r, r1, r2, r3⟩ := run_same (mn_ := mn_) (mx := mx) (sp := sp) (ac := ac) k2 [] 0 4097 (p, v, g, hlt) [] ⟨(e3 rfl).1, (e3 rfl).2, e1⟩ (by simp; omega) (by simp)
        obtain ⟨r', r1', r2', r3'⟩ := run_same (mn_ := mn_) (mx := mx) (sp := sp) (ac := ac) k2 r 0 4097 (p, v, g, hlt) [] ⟨(e3 rfl).1, (e3 rfl).2, e1⟩ (by simp; omega) (by simp)
        rw [r1] at r1'
        injection r1' with q
        injection q with q _
        subst q
        rw [if_pos (show ¬ most < 0 by omega), if_neg (show ¬ most > 4096 by omega), r1, bind_some_, if_pos k, bind_some_, if_neg (by simp; omega), spylaw2_AxisRuns.p7_eq, if_neg (by simp)]
        simp only []
        rw [r3', spylaw2_AxisRuns.p13_eq, if_pos (by simp), equal_states _ _ (by omega), bind_some_]
        simp
      · rw [if_pos (show ¬ most < 0 by omega), if_pos (show most > 4096 by omega), bind_some_, if_pos k, bind_some_, if_pos (by simp; omega), spylaw2_AxisRuns.p7_eq]
        simp
    · rw [if_neg (show ¬ ¬ most < 0 by omega), bind_some_, if_neg k, bind_some_, if_pos (by simp), spylaw2_AxisRuns.p7_eq]
      simp
  · simp only [if_pos c, if_neg c, bind_some_, spylaw2_AxisRuns.p7_eq]
    simp [c]

end Go.Proofs.Ytchmfnmnijhjfaa.Pure
