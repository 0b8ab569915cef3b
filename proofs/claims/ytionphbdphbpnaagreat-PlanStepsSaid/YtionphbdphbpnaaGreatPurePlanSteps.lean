/- PlanSteps: the pure statement, proved. -/
import Derived.Test.YtionphbdphbpnaaGreatEA0
import Derived.Test.YtionphbdphbpnaaGreatEA1
import Derived.Test.YtionphbdphbpnaaGreatEA2
import Derived.Test.YtionphbdphbpnaaGreatEA3
import Derived.Test.YtionphbdphbpnaaGreatEA4
import Derived.Test.YtionphbdphbpnaaGreatEA5
import Derived.Test.YtionphbdphbpnaaGreatEA6
import Derived.Test.YtionphbdphbpnaaGreatEA7
import Derived.Test.YtionphbdphbpnaaGreatPl
import Derived.Test.YtionphbdphbpnaaGreatLemA
import Derived.Test.YtionphbdphbpnaaGreatLemB
import Derived.Test.YtionphbdphbpnaaGreatLemC
namespace Go.Proofs.YtionphbdphbpnaaGreat.Pure
set_option linter.unusedVariables false
set_option linter.unusedSimpArgs false
open Go Go.RowKit Go.Proofs.YtionphbdphbpnaaGreat.Pv Go.Proofs.YtionphbdphbpnaaGreat.Pl Go.Proofs.YtionphbdphbpnaaGreat.EA

theorem step_same {n : Night} {m : Mount_} {p : Progr} {cl : List (List Int)} {aim : List (List (Int × Int))} (hn : prop_CheckNight n = some 0) (hm : slew_CheckMount m = some 0) (ok : NightOk n) (mk : MtOk m) (pk : ProgOk p) (dk : DeskOk n p cl aim) (s : State_) (v : Int × Int × Int × Int) :
    ∃ f, plan_CheckState n m p s = some f ∧ spyref2_Table_StateFault (n, m, p, cl) s = some f ∧ (f ≠ 0 → plan_Desk_Step (n, m, p, cl, aim) s v = some ((0, (0, 0), []), f)) ∧ (f = 0 → ∃ q e, plan_Desk_Step (n, m, p, cl, aim) s v = some (q, e) ∧ spyref2_Table_Visit (n, m, p, cl) s v = some (q, e) ∧ (e ≠ 0 → q = (0, (0, 0), [])) ∧ (e = 0 → StOk n p q)) := by
  obtain ⟨f, f1, f2, _⟩ := state_same n m p s pk cl
  refine ⟨f, f1, f2, fun hf => ?_, fun hf => ?_⟩
  · rw [plan_Desk_Step_eq, desk_check ok, f1, bind_some_, if_pos (by rw [ne_t]; exact hf)]
  · subst hf
    have st := check_ok pk f1
    obtain ⟨c, e, q, c1, c2, c3, c4⟩ := visit_same hn hm ok mk pk dk st v
    rw [plan_Desk_Step_eq, desk_check ok, f1, bind_some_, if_neg (by decide), c1, bind_some_]
    by_cases he : e = 0
    · subst he
      obtain ⟨x, x1, x2⟩ := c4 rfl
      rw [if_neg (show ¬ ((0 : Int) != 0) = true by decide), st_clone pk st, bind_some_, x1, bind_some_]
      exact ⟨q, 0, rfl, c2, fun k => absurd rfl k, fun _ => x2⟩
    · rw [if_pos (show (e != 0) = true by rw [ne_t]; exact he)]
      have hq := c3 he
      subst hq
      exact ⟨_, e, rfl, c2, fun _ => rfl, fun k => absurd k he⟩
theorem PlanSteps : ∀ (x0 : (Int × Int) × (Int × Int × Int × Int) × Int × Int × Int × (Int × Int × Int) × (Int × Int × Int) × Int × List Int) (x1 : (Int × Int × Int × Int) × (Int × Int × Int × Int) × Int × Int) (x2 : (List (ByteArray × Int)) × List (Int × Int × (Int × Int × Int) × Int × Int × Int × Int × Int × Int × Int × Int)) (x3 : Int × (Int × Int) × List (List Int)) (x4 : Int × Int × Int × Int), goodT Tryz.prog (.prod (.prod (.int .i64) (.int .i64)) (.prod (.prod (.int .i64) (.prod (.int .i64) (.prod (.int .i64) (.int .i64)))) (.prod (.int .i64) (.prod (.int .i64) (.prod (.int .i64) (.prod (.prod (.int .i64) (.prod (.int .i64) (.int .i64))) (.prod (.prod (.int .i64) (.prod (.int .i64) (.int .i64))) (.prod (.int .i64) (.list false 3 (.int .i64)))))))))) x0 → goodT Tryz.prog (.prod (.prod (.int .i64) (.prod (.int .i64) (.prod (.int .i64) (.int .i64)))) (.prod (.prod (.int .i64) (.prod (.int .i64) (.prod (.int .i64) (.int .i64)))) (.prod (.int .i64) (.int .i64)))) x1 → goodT Tryz.prog (.prod (.list false 137 (.prod .str (.int .i64))) (.list false 37 (.prod (.int .i64) (.prod (.int .i64) (.prod (.prod (.int .i64) (.prod (.int .i64) (.int .i64))) (.prod (.int .i64) (.prod (.int .i64) (.prod (.int .i64) (.prod (.int .i64) (.prod (.int .i64) (.prod (.int .i64) (.prod (.int .i64) (.int .i64))))))))))))) x2 → goodT Tryz.prog (.prod (.int .i64) (.prod (.prod (.int .i64) (.int .i64)) (.list false 33 (.list false 3 (.int .i64))))) x3 → goodT Tryz.prog (.prod (.int .i64) (.prod (.int .i64) (.prod (.int .i64) (.int .i64)))) x4 → spylaw2_PlanSteps x0 x1 x2 x3 x4 = some true := by
  intro n m p s v hn hm hp hs hv
  obtain ⟨e, c1, c2, c3⟩ := all_same n m p
  rw [spylaw2_PlanSteps_eq, plans_ok, bind_some_, if_neg (by decide), spylaw2_ready_eq, c2, bind_some_]
  by_cases he : e = 0
  · subst he
    obtain ⟨nok, pok⟩ := c3 rfl
    obtain ⟨hnight, hmount, mok⟩ := all_parts c1
    obtain ⟨cl, aim, dk, d1, d2⟩ := desk_new c1 hnight nok pok
    obtain ⟨f, f1, f2, f3, f4⟩ := step_same hnight hmount nok mok pok dk s v
    rw [if_neg (show ¬ ((0 : Int) != 0) = true by decide), d2, bind_some_, f2, bind_some_, bind_some_, d1, bind_some_]
    simp only
    rw [if_neg (show ¬ ((0 : Int) != 0) = true by decide)]
    by_cases hf : f = 0
    · subst hf
      obtain ⟨q, e, q1, q2, q3, q4⟩ := f4 rfl
      rw [q1, q2, bind_some_, bind_some_, if_neg (show ¬ ((0 : Int) != 0) = true by decide), if_pos (by simp)]
      have : spyref2_SameState q q = some true := by
        by_cases he : e = 0
        · exact st_same pok (q4 he)
        · rw [q3 he]
          exact zero_same
      rw [this]
      rfl
    · rw [f3 hf, bind_some_, if_pos (show (f != 0) = true by rw [ne_t]; exact hf), if_pos (by simp), zero_same]
      rfl
  · have h : (e != 0) = true := by rw [ne_t]; exact he
    rw [if_pos h, bind_some_, new_zero c1 he, bind_some_]
    simp only
    rw [if_pos h, plan_Desk_Step_eq, desk_zero, bind_some_, if_pos (by decide), bind_some_, bind_some_, if_pos (by simp)]
    rfl

end Go.Proofs.YtionphbdphbpnaaGreat.Pure
