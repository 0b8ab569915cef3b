/- PlanAfter: the pure statement, proved. -/
import Derived.Test.YtionphbdphbpnaaGreatEA0
import Derived.Test.YtionphbdphbpnaaGreatEA1
import Derived.Test.YtionphbdphbpnaaGreatEA2
import Derived.Test.YtionphbdphbpnaaGreatEA3
import Derived.Test.YtionphbdphbpnaaGreatEA4
import Derived.Test.YtionphbdphbpnaaGreatEA5
import Derived.Test.YtionphbdphbpnaaGreatEA6
import Derived.Test.YtionphbdphbpnaaGreatEA7
import Derived.Test.YtionphbdphbpnaaGreatPl
import Derived.Test.YtionphbdphbpnaaGreatLemA
import Derived.Test.YtionphbdphbpnaaGreatLemB
import Derived.Test.YtionphbdphbpnaaGreatLemC
namespace Go.Proofs.YtionphbdphbpnaaGreat.Pure
set_option linter.unusedVariables false
set_option linter.unusedSimpArgs false
open Go Go.RowKit Go.Proofs.YtionphbdphbpnaaGreat.Pv Go.Proofs.YtionphbdphbpnaaGreat.Pl Go.Proofs.YtionphbdphbpnaaGreat.EA

theorem start_p6 {n : Night} {p : Progr} (pk : ProgOk p) (s : State_) (hs : s.2.2 = List.replicate p.2.length []) : ∀ (u k : Nat), p.2.length - k = u → k ≤ p.2.length → plan_CheckState.p6 (List.replicate p.2.length []) ((List.replicate p.2.length ([] : List Int)).length : Int) k p s = some 0 := by
  have hr := pk.reqs
  intro u
  induction u with
  | zero =>
    intro k hu hk
    rw [plan_CheckState.p6_eq, if_neg (by rw [dt]; simp; omega)]
  | succ u ih =>
    intro k hu hk
    have rl := req_len pk (j := k) (by omega)
    rw [plan_CheckState.p6_eq, if_pos (by rw [dt]; simp; omega), if_pos (by omega), if_pos (by simp; omega), if_pos (by omega), if_pos (by omega), toNat_nat, getD_repl, if_neg (by rw [dt]; show ¬ ((0 : Int) > (p.2.getD k (0, 0, (0, 0, 0), 0, 0, 0, 0, 0, 0, 0, 0)).2.2.2.2.1); omega), plan_CheckState.p11_eq, if_neg (by decide), wi_nat (by omega)]
    exact ih (k + 1) (by omega) (by omega)
theorem start_ok {n : Night} {m : Mount_} {p : Progr} (ok : NightOk n) (mk : MtOk m) (pk : ProgOk p) : plan_CheckState n m p (0, m.2.2, List.replicate p.2.length []) = some 0 := by
  have h := ok.slots
  have a := mk.p
  have b := mk.q
  rw [plan_CheckState_eq, (in_within ..).1, (in_within ..).1]
  simp only [bind_some_]
  rw [if_pos (by rw [df]; omega), if_pos (by rw [df]; omega), if_pos (by rw [not_f, dt]; exact a), if_neg (by rw [not_t, df]; exact fun q => q b), if_neg (by rw [ne_t]; simp)]
  exact start_p6 (n := n) pk _ rfl _ 0 rfl (by omega)
theorem after_run {n : Night} {m : Mount_} {p : Progr} {cl : List (List Int)} {aim : List (List (Int × Int))} (hn : prop_CheckNight n = some 0) (hm : slew_CheckMount m = some 0) (ok : NightOk n) (mk : MtOk m) (pk : ProgOk p) (dk : DeskOk n p cl aim) (l : List (Int × Int × Int × Int)) (hl : l.length ≤ 64) (b b' : State_) : ∀ (u k : Nat) (s : State_), l.length - k = u → k ≤ l.length → StOk n p s →
    ∃ q e, plan_Desk_After.p8 l l.length k (n, m, p, cl, aim) b s.1 s.2.1.1 s.2.1.2 s.2.2 = some (q, e) ∧ spyref2_Table_Visits.p5 l l.length k (n, m, p, cl) b' s = some (q, e) ∧ (e ≠ 0 → q = (0, (0, 0), [])) ∧ (e = 0 → StOk n p q) := by
  intro u
  induction u with
  | zero =>
    intro k s hu hk st
    rw [plan_Desk_After.p8_eq, spyref2_Table_Visits.p5_eq, if_neg (by rw [dt]; omega), if_neg (by rw [dt]; omega)]
    exact ⟨s, 0, rfl, rfl, fun q => absurd rfl q, fun _ => st⟩
  | succ u ih =>
    intro k s hu hk st
    obtain ⟨c, e, q, c1, c2, c3, c4⟩ := visit_same hn hm ok mk pk dk st (l.getD k (0, 0, 0, 0))
    obtain ⟨s0, ⟨s1, s2⟩, s3⟩ := s
    rw [plan_Desk_After.p8_eq, spyref2_Table_Visits.p5_eq]
    simp only [toNat_nat, wi_nat (show k < 9223372036854775807 by omega)]
    rw [if_pos (show decide ((k : Int) < (l.length : Int)) = true by rw [dt]; omega), if_pos (show (0 : Int) ≤ k by omega), if_pos (show (k : Int) < l.length by omega), if_pos (show decide ((k : Int) < (l.length : Int)) = true by rw [dt]; omega), if_pos (show (0 : Int) ≤ k by omega), if_pos (show (k : Int) < l.length by omega), c1, c2, bind_some_, bind_some_]
    by_cases he : e = 0
    · subst he
      obtain ⟨x, x1, x2⟩ := c4 rfl
      rw [if_neg (show ¬ ((0 : Int) != 0) = true by decide), if_neg (show ¬ ((0 : Int) != 0) = true by decide), x1, bind_some_]
      exact ih (k + 1) q (by omega) (by omega) x2
    · rw [if_pos (show (e != 0) = true by rw [ne_t]; exact he), if_pos (show (e != 0) = true by rw [ne_t]; exact he)]
      exact ⟨_, e, rfl, rfl, fun _ => rfl, fun k => absurd k he⟩
/-- The state after a list of visits, both ways. -/
theorem visits_same {n : Night} {m : Mount_} {p : Progr} {cl : List (List Int)} {aim : List (List (Int × Int))} (hn : prop_CheckNight n = some 0) (hm : slew_CheckMount m = some 0) (ok : NightOk n) (mk : MtOk m) (pk : ProgOk p) (dk : DeskOk n p cl aim) (l : List (Int × Int × Int × Int)) :
    ∃ q e, plan_Desk_After (n, m, p, cl, aim) l = some (q, e) ∧ spyref2_Table_Visits (n, m, p, cl) l = some (q, e) ∧ (e ≠ 0 → q = (0, (0, 0), [])) ∧ (e = 0 → StOk n p q) := by
  have hr := pk.reqs
  have hs := ok.slots
  have e1 : plan_Start m p = some (0, m.2.2, List.replicate p.2.length []) := by
    rw [plan_Start_eq, if_pos rfl, if_pos (by omega), if_pos (by omega)]
  have e2 : spyref2_Table_First (n, m, p, cl) = some (0, m.2.2, List.replicate p.2.length []) := by
    rw [spyref2_Table_First_eq]
    simp only
    rw [if_pos trivial, if_pos (by omega), if_pos (by omega)]
  have c0 := start_ok ok mk pk
  rw [plan_Desk_After_eq, spyref2_Table_Visits_eq]
  simp only
  rw [e1, bind_some_, desk_check ok, c0, bind_some_, if_neg (show ¬ ((0 : Int) != 0) = true by decide)]
  by_cases h : (l.length : Int) > n.2.2.2.2.1
  · rw [if_pos (show decide ((l.length : Int) > n.2.2.2.2.1) = true by rw [dt]; exact h), if_pos (show decide ((l.length : Int) > n.2.2.2.2.1) = true by rw [dt]; exact h)]
    exact ⟨_, 2, rfl, rfl, fun _ => rfl, fun k => by cases k⟩
  · rw [if_neg (show ¬ decide ((l.length : Int) > n.2.2.2.2.1) = true by rw [dt]; exact h), if_neg (show ¬ decide ((l.length : Int) > n.2.2.2.2.1) = true by rw [dt]; exact h), e2, bind_some_]
    exact after_run hn hm ok mk pk dk l (by omega) (0, (0, 0), []) (0, (0, 0), []) _ 0 (0, m.2.2, List.replicate p.2.length []) rfl (by omega) (check_ok pk c0)
theorem PlanAfter : ∀ (x0 : (Int × Int) × (Int × Int × Int × Int) × Int × Int × Int × (Int × Int × Int) × (Int × Int × Int) × Int × List Int) (x1 : (Int × Int × Int × Int) × (Int × Int × Int × Int) × Int × Int) (x2 : (List (ByteArray × Int)) × List (Int × Int × (Int × Int × Int) × Int × Int × Int × Int × Int × Int × Int × Int)) (x3 : List (Int × Int × Int × Int)), goodT Tryz.prog (.prod (.prod (.int .i64) (.int .i64)) (.prod (.prod (.int .i64) (.prod (.int .i64) (.prod (.int .i64) (.int .i64)))) (.prod (.int .i64) (.prod (.int .i64) (.prod (.int .i64) (.prod (.prod (.int .i64) (.prod (.int .i64) (.int .i64))) (.prod (.prod (.int .i64) (.prod (.int .i64) (.int .i64))) (.prod (.int .i64) (.list false 3 (.int .i64)))))))))) x0 → goodT Tryz.prog (.prod (.prod (.int .i64) (.prod (.int .i64) (.prod (.int .i64) (.int .i64)))) (.prod (.prod (.int .i64) (.prod (.int .i64) (.prod (.int .i64) (.int .i64)))) (.prod (.int .i64) (.int .i64)))) x1 → goodT Tryz.prog (.prod (.list false 137 (.prod .str (.int .i64))) (.list false 37 (.prod (.int .i64) (.prod (.int .i64) (.prod (.prod (.int .i64) (.prod (.int .i64) (.int .i64))) (.prod (.int .i64) (.prod (.int .i64) (.prod (.int .i64) (.prod (.int .i64) (.prod (.int .i64) (.prod (.int .i64) (.prod (.int .i64) (.int .i64))))))))))))) x2 → goodT Tryz.prog (.list false 88 (.prod (.int .i64) (.prod (.int .i64) (.prod (.int .i64) (.int .i64))))) x3 → spylaw2_PlanAfter x0 x1 x2 x3 = some true := by
  intro n m p l hn hm hp hl
  obtain ⟨e, c1, c2, c3⟩ := all_same n m p
  rw [spylaw2_PlanAfter_eq, plans_ok, bind_some_, if_neg (by decide), plan_Check_eq, c2]
  by_cases he : e = 0
  · subst he
    obtain ⟨nok, pok⟩ := c3 rfl
    obtain ⟨hnight, hmount, mok⟩ := all_parts c1
    obtain ⟨cl, aim, dk, d1, d2⟩ := desk_new c1 hnight nok pok
    obtain ⟨q, e, q1, q2, q3, q4⟩ := visits_same hnight hmount nok mok pok dk l
    have ha : plan_After n m p l = some (q, e) := by
      rw [plan_After_eq, d1, bind_some_]
      simp only
      rw [if_neg (show ¬ ((0 : Int) != 0) = true by decide), q1]
      rfl
    rw [ha, bind_some_, bind_some_, bind_some_, bind_some_, if_neg (show ¬ ((0 : Int) != 0) = true by decide), d2, bind_some_, q2, bind_some_, if_pos (by simp), if_pos (by simp)]
    have : spyref2_SameState q q = some true := by
      by_cases he : e = 0
      · exact st_same pok (q4 he)
      · rw [q3 he]
        exact zero_same
    rw [this]
    rfl
  · have h : (e != 0) = true := by rw [ne_t]; exact he
    have ha : plan_After n m p l = some ((0, (0, 0), []), e) := by
      rw [plan_After_eq, new_zero c1 he, bind_some_]
      simp only
      rw [if_pos h]
    rw [ha, bind_some_, bind_some_, bind_some_, bind_some_, if_pos h, if_pos (by simp), if_pos (by simp), zero_same]
    rfl

end Go.Proofs.YtionphbdphbpnaaGreat.Pure
