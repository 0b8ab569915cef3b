/- PlanEarliest: the pure statement, proved. -/
import Derived.Test.YtahedflmojodmaaGreatEA0
import Derived.Test.YtahedflmojodmaaGreatEA1
import Derived.Test.YtahedflmojodmaaGreatEA2
import Derived.Test.YtahedflmojodmaaGreatEA3
import Derived.Test.YtahedflmojodmaaGreatEA4
import Derived.Test.YtahedflmojodmaaGreatEA5
import Derived.Test.YtahedflmojodmaaGreatPl
import Derived.Test.YtahedflmojodmaaGreatLemA
import Derived.Test.YtahedflmojodmaaGreatLemB
import Derived.Test.YtahedflmojodmaaGreatLemC
namespace Go.Proofs.YtahedflmojodmaaGreat.Pure
set_option linter.unusedVariables false
set_option linter.unusedSimpArgs false
open Go Go.RowKit Go.Proofs.YtahedflmojodmaaGreat.Pv Go.Proofs.YtahedflmojodmaaGreat.Pl Go.Proofs.YtahedflmojodmaaGreat.EA

theorem step_same {n : Night} {m : Mount_} {p : Progr} {cl : List (List Int)} {aim : List (List (Int × Int))} (hn : prop_CheckNight n = some 0) (hm : slew_CheckMount m = some 0) (ok : NightOk n) (mk : MtOk m) (pk : ProgOk p) (dk : DeskOk n p cl aim) (s : State_) (v : Int × Int × Int × Int) :
    ∃ f, plan_CheckState n m p s = some f ∧ spyref2_Table_StateFault (n, m, p, cl) s = some f ∧ (f ≠ 0 → plan_Desk_Step (n, m, p, cl, aim) s v = some ((0, (0, 0), []), f)) ∧ (f = 0 → ∃ q e, plan_Desk_Step (n, m, p, cl, aim) s v = some (q, e) ∧ spyref2_Table_Visit (n, m, p, cl) s v = some (q, e) ∧ (e ≠ 0 → q = (0, (0, 0), [])) ∧ (e = 0 → StOk n p q)) := by
  obtain ⟨f, f1, f2, _⟩ := state_same n m p s pk cl
  refine ⟨f, f1, f2, fun hf => ?_, fun hf => ?_⟩
  · rw [plan_Desk_Step_eq, desk_check ok, f1, bind_some_, if_pos (by rw [ne_t]; exact hf)]
  · subst hf
    have st := check_ok pk f1
    obtain ⟨c, e, q, c1, c2, c3, c4⟩ := visit_same hn hm ok mk pk dk st v
    rw [plan_Desk_Step_eq, desk_check ok, f1, bind_some_, if_neg (by decide), c1, bind_some_]
    by_cases he : e = 0
    · subst he
      obtain ⟨x, x1, x2⟩ := c4 rfl
      rw [if_neg (show ¬ ((0 : Int) != 0) = true by decide), st_clone pk st, bind_some_, x1, bind_some_]
      exact ⟨q, 0, rfl, c2, fun k => absurd rfl k, fun _ => x2⟩
    · rw [if_pos (show (e != 0) = true by rw [ne_t]; exact he)]
      have hq := c3 he
      subst hq
      exact ⟨_, e, rfl, c2, fun _ => rfl, fun k => absurd k he⟩
/-! The earliest visit. -/
/-- A visit that would end behind the night. -/
theorem visit_late {n : Night} {m : Mount_} {p : Progr} {cl : List (List Int)} {aim : List (List (Int × Int))} (hn : prop_CheckNight n = some 0) (hm : slew_CheckMount m = some 0) (ok : NightOk n) (mk : MtOk m) (pk : ProgOk p) (dk : DeskOk n p cl aim) {s : State_} (st : StOk n p s) (v : Int × Int × Int × Int) (h : v.2.2.1 > n.2.2.2.2.1 - v.2.2.2) : ∃ e, spyref2_Table_Visit (n, m, p, cl) s v = some ((0, (0, 0), []), e) ∧ e ≠ 0 := by
  have hr := pk.reqs
  have h64 := ok.slots
  have hl := st.len
  rw [spyref2_Table_Visit_eq]
  simp only
  rcases index_of p v.1 hr with ⟨h1, h2⟩ | ⟨j, hj, h1, h2⟩
  · rw [h1, bind_some_, if_pos (by decide)]
    exact ⟨8, rfl, by decide⟩
  · have rl := req_len pk hj
    rw [h1, bind_some_, if_neg (by rw [dt]; omega)]
    simp only [toNat_nat]
    rw [if_pos (show (0 : Int) ≤ (j : Int) by omega), if_pos (show (j : Int) < (p.2.length : Int) by omega), if_pos (show (0 : Int) ≤ (j : Int) by omega), if_pos (show (j : Int) < (s.2.2.length : Int) by omega)]
    obtain ⟨r, hR⟩ : ∃ r, p.2.getD j (0, 0, (0, 0, 0), 0, 0, 0, 0, 0, 0, 0, 0) = r := ⟨_, rfl⟩
    rw [hR] at rl ⊢
    simp only [in_val, bind_some_]
    by_cases c1 : v.2.2.2 = r.2.2.2.1
    · rw [if_neg (show ¬ (v.2.2.2 != r.2.2.2.1) = true by rw [ne_t]; exact fun q => q c1), wi (x := n.2.2.2.2.1 - r.2.2.2.1) (by omega) (by omega)]
      have hb : decide (s.1 ≤ v.2.2.1 ∧ v.2.2.1 ≤ n.2.2.2.2.1 - r.2.2.2.1) = false := by rw [df]; omega
      rw [hb]
      first
        | (rw [if_pos (by decide)]; exact ⟨6, rfl, by decide⟩)
        | (rw [if_neg (by decide)]; exact ⟨6, rfl, by decide⟩)
        | (simp only [Bool.not_false, if_true, Bool.false_eq_true, if_false, Bool.true_eq_false]; exact ⟨_, rfl, by decide⟩)
    · rw [if_pos (show (v.2.2.2 != r.2.2.2.1) = true by rw [ne_t]; exact c1)]
      exact ⟨3, rfl, by decide⟩
theorem late_run {n : Night} {m : Mount_} {p : Progr} {cl : List (List Int)} {aim : List (List (Int × Int))} (hn : prop_CheckNight n = some 0) (hm : slew_CheckMount m = some 0) (ok : NightOk n) (mk : MtOk m) (pk : ProgOk p) (dk : DeskOk n p cl aim) {s : State_} (st : StOk n p s) (r : Req) (h1 : 1 ≤ r.2.2.2.1) (b6 : Int × Int × Int × Int) (b7 : State_) : ∀ (u k : Nat), n.2.2.2.2.1.toNat + 1 - k = u → n.2.2.2.2.1 - r.2.2.2.1 < (k : Int) → s.1 ≤ (k : Int) → (k : Int) ≤ n.2.2.2.2.1 → spyref2_Table_Earliest.p5 k (n, m, p, cl) s b6 b7 r = some ((0, 0, 0, 0), (0, (0, 0), []), 8) := by
  have h64 := ok.slots
  have hslot := st.slot
  intro u
  induction u with
  | zero => intro k hu h2 h3 h4; omega
  | succ u ih =>
    intro k hu h2 h3 h4
    rw [spyref2_Table_Earliest.p5_eq]
    by_cases c : (k : Int) < n.2.2.2.2.1
    · rw [if_pos (by rw [dt]; exact c), wi (x := (k : Int) - s.1) (by omega) (by omega)]
      obtain ⟨e, e1, e2⟩ := visit_late (aim := aim) hn hm ok mk pk dk st (r.1, (k : Int) - s.1, (k : Int), r.2.2.2.1) (by simp only; omega)
      rw [e1, bind_some_, if_neg (by rw [eq_t]; exact e2), wi_nat (by omega)]
      exact ih (k + 1) (by omega) (by omega) (by omega) (by omega)
    · rw [if_neg (by rw [dt]; exact c)]
theorem earliest_run {n : Night} {m : Mount_} {p : Progr} {cl : List (List Int)} {aim : List (List (Int × Int))} (hn : prop_CheckNight n = some 0) (hm : slew_CheckMount m = some 0) (ok : NightOk n) (mk : MtOk m) (pk : ProgOk p) (dk : DeskOk n p cl aim) {s : State_} (st : StOk n p s) (sf : plan_CheckState n m p s = some 0) (r : Req) (h1 : 1 ≤ r.2.2.2.1 ∧ r.2.2.2.1 ≤ 8) (b6 b6' : Int × Int × Int × Int) (b7 b7' : State_) : ∀ (u k : Nat), n.2.2.2.2.1.toNat + 1 - k = u → s.1 ≤ (k : Int) → (k : Int) ≤ n.2.2.2.2.1 →
    ∃ v q e, plan_Desk_Earliest.p8 k (n, m, p, cl, aim) s b6 b7 r = some (v, q, e) ∧ spyref2_Table_Earliest.p5 k (n, m, p, cl) s b6' b7' r = some (v, q, e) ∧ (e ≠ 0 → q = (0, (0, 0), []) ∧ v = (0, 0, 0, 0)) ∧ (e = 0 → StOk n p q) := by
  have h64 := ok.slots
  have hslot := st.slot
  intro u
  induction u with
  | zero => intro k hu h2 h3; omega
  | succ u ih =>
    intro k hu h2 h3
    by_cases c : (k : Int) ≤ n.2.2.2.2.1 - r.2.2.2.1
    · obtain ⟨f, f1, f2, f3, f4⟩ := step_same hn hm ok mk pk dk s (r.1, (k : Int) - s.1, (k : Int), r.2.2.2.1)
      rw [sf] at f1
      cases f1
      obtain ⟨q, e, q1, q2, q3, q4⟩ := f4 rfl
      rw [plan_Desk_Earliest.p8_eq, spyref2_Table_Earliest.p5_eq]
      simp only
      rw [wi (x := n.2.2.2.2.1 - r.2.2.2.1) (by omega) (by omega), wi (x := (k : Int) - s.1) (by omega) (by omega), if_pos (by rw [dt]; exact c), if_pos (by rw [dt]; omega), q1, q2, bind_some_, bind_some_]
      by_cases he : e = 0
      · have hb : (e == 0) = true := by rw [eq_t]; exact he
        simp only [hb, if_true]
        exact ⟨_, _, _, rfl, rfl, fun k => absurd rfl k, fun _ => q4 he⟩
      · have hb : ¬ (e == 0) = true := by rw [eq_t]; exact he
        simp only [hb, if_false]
        clear q3 q4 f3 f4
        rw [wi_nat (by omega)]
        exact ih (k + 1) (by omega) (by omega) (by omega)
    · rw [plan_Desk_Earliest.p8_eq, wi (x := n.2.2.2.2.1 - r.2.2.2.1) (by omega) (by omega), if_neg (by rw [dt]; exact c), late_run hn hm ok mk pk dk st r h1.1 b6' b7' _ k hu (by omega) h2 h3]
      exact ⟨_, _, _, rfl, rfl, fun _ => ⟨rfl, rfl⟩, fun k => absurd k (show ¬ ((8 : Int) = 0) by decide)⟩
theorem earliest_same {n : Night} {m : Mount_} {p : Progr} {cl : List (List Int)} {aim : List (List (Int × Int))} (hn : prop_CheckNight n = some 0) (hm : slew_CheckMount m = some 0) (ok : NightOk n) (mk : MtOk m) (pk : ProgOk p) (dk : DeskOk n p cl aim) {s : State_} (st : StOk n p s) (sf : plan_CheckState n m p s = some 0) (i : Int) : ∃ v q e, plan_Desk_Earliest (n, m, p, cl, aim) s i = some (v, q, e) ∧ spyref2_Table_Earliest (n, m, p, cl) s i = some (v, q, e) ∧ (e ≠ 0 → q = (0, (0, 0), []) ∧ v = (0, 0, 0, 0)) ∧ (e = 0 → StOk n p q) := by
  have hr := pk.reqs
  have h64 := ok.slots
  have hslot := st.slot
  rw [plan_Desk_Earliest_eq, spyref2_Table_Earliest_eq, desk_check ok, sf, bind_some_, if_neg (by decide), in_val, bind_some_, wi (x := (p.2.length : Int) - 1) (by omega) (by omega)]
  simp only
  by_cases c : 0 ≤ i ∧ i < (p.2.length : Int)
  · rw [if_pos (show decide (i < 0) = false by rw [df]; omega), if_neg (show ¬ decide (i ≥ (p.2.length : Int)) = true by rw [dt]; omega), if_pos c.1, if_pos c.2, if_neg (show ¬ (!decide (0 ≤ i ∧ i ≤ (p.2.length : Int) - 1)) = true by rw [not_t, df]; omega), if_pos c.1, if_pos c.2]
    have rl := req_len pk (j := i.toNat) (by omega)
    have := earliest_run hn hm ok mk pk dk st sf (p.2.getD i.toNat (0, 0, (0, 0, 0), 0, 0, 0, 0, 0, 0, 0, 0)) ⟨rl.1, rl.2.1⟩ (0, 0, 0, 0) (0, 0, 0, 0) (0, (0, 0), []) (0, (0, 0), []) _ s.1.toNat rfl (by omega) (by omega)
    rw [show ((s.1.toNat : Nat) : Int) = s.1 by omega] at this
    exact this
  · rw [if_pos (show (!decide (0 ≤ i ∧ i ≤ (p.2.length : Int) - 1)) = true by rw [not_t, df]; omega)]
    by_cases c1 : i < 0
    · rw [if_neg (show ¬ decide (i < 0) = false by rw [df]; omega)]
      exact ⟨_, _, _, rfl, rfl, fun _ => ⟨rfl, rfl⟩, fun k => absurd k (show ¬ ((8 : Int) = 0) by decide)⟩
    · rw [if_pos (show decide (i < 0) = false by rw [df]; omega), if_pos (show decide (i ≥ (p.2.length : Int)) = true by rw [dt]; omega)]
      exact ⟨_, _, _, rfl, rfl, fun _ => ⟨rfl, rfl⟩, fun k => absurd k (show ¬ ((8 : Int) = 0) by decide)⟩
theorem PlanEarliest : ∀ (x0 : (Int × Int) × (Int × Int × Int × Int) × Int × Int × Int × (Int × Int × Int) × (Int × Int × Int) × Int × List Int) (x1 : (Int × Int × Int × Int) × (Int × Int × Int × Int) × Int × Int) (x2 : (List (ByteArray × Int)) × List (Int × Int × (Int × Int × Int) × Int × Int × Int × Int × Int × Int × Int × Int)) (x3 : Int × (Int × Int) × List (List Int)) (x4 : Int), goodT Tryz.prog (.prod (.prod (.int .i64) (.int .i64)) (.prod (.prod (.int .i64) (.prod (.int .i64) (.prod (.int .i64) (.int .i64)))) (.prod (.int .i64) (.prod (.int .i64) (.prod (.int .i64) (.prod (.prod (.int .i64) (.prod (.int .i64) (.int .i64))) (.prod (.prod (.int .i64) (.prod (.int .i64) (.int .i64))) (.prod (.int .i64) (.list false 3 (.int .i64)))))))))) x0 → goodT Tryz.prog (.prod (.prod (.int .i64) (.prod (.int .i64) (.prod (.int .i64) (.int .i64)))) (.prod (.prod (.int .i64) (.prod (.int .i64) (.prod (.int .i64) (.int .i64)))) (.prod (.int .i64) (.int .i64)))) x1 → goodT Tryz.prog (.prod (.list false 121 (.prod .str (.int .i64))) (.list false 85 (.prod (.int .i64) (.prod (.int .i64) (.prod (.prod (.int .i64) (.prod (.int .i64) (.int .i64))) (.prod (.int .i64) (.prod (.int .i64) (.prod (.int .i64) (.prod (.int .i64) (.prod (.int .i64) (.prod (.int .i64) (.prod (.int .i64) (.int .i64))))))))))))) x2 → goodT Tryz.prog (.prod (.int .i64) (.prod (.prod (.int .i64) (.int .i64)) (.list false 33 (.list false 3 (.int .i64))))) x3 → goodT Tryz.prog (.int .i64) x4 → spylaw2_PlanEarliest x0 x1 x2 x3 x4 = some true := by
  intro n m p s i hn hm hp hs hi
  obtain ⟨e, c1, c2, c3⟩ := all_same n m p
  rw [spylaw2_PlanEarliest_eq, plans_ok, bind_some_, if_neg (by decide), spylaw2_ready_eq, c2, bind_some_]
  by_cases he : e = 0
  · subst he
    obtain ⟨nok, pok⟩ := c3 rfl
    obtain ⟨hnight, hmount, mok⟩ := all_parts c1
    obtain ⟨cl, aim, dk, d1, d2⟩ := desk_new c1 hnight nok pok
    obtain ⟨f, f1, f2, _⟩ := state_same n m p s pok cl
    rw [if_neg (show ¬ ((0 : Int) != 0) = true by decide), d2, bind_some_, f2, bind_some_, bind_some_, d1, bind_some_, bind_some_]
    simp only
    rw [if_neg (show ¬ ((0 : Int) != 0) = true by decide)]
    by_cases hf : f = 0
    · subst hf
      have st := check_ok pok f1
      obtain ⟨v, q, e, q1, q2, q3, q4⟩ := earliest_same hnight hmount nok mok pok dk st f1 i
      have same : spyref2_SameState q q = some true := by
        by_cases he : e = 0
        · exact st_same pok (q4 he)
        · rw [(q3 he).1]
          exact zero_same
      rw [q1, bind_some_, q2, if_neg (show ¬ ((0 : Int) != 0) = true by decide), if_neg (show ¬ ((0 : Int) != 0) = true by decide), bind_some_]
      simp only
      rw [if_pos (by simp), if_pos (by simp), same]
      rfl
    · have hne : (f != 0) = true := by rw [ne_t]; exact hf
      rw [plan_Desk_Earliest_eq, desk_check nok, f1, bind_some_, if_pos hne, bind_some_, if_neg (show ¬ ((0 : Int) != 0) = true by decide), if_pos hne]
      simp only
      rw [if_pos (by simp), if_pos (by simp), zero_same]
      rfl
  · have h : (e != 0) = true := by rw [ne_t]; exact he
    rw [if_pos h, bind_some_, new_zero c1 he, bind_some_, bind_some_]
    simp only
    rw [if_neg (by simp), plan_Desk_Earliest_eq, desk_zero, bind_some_, if_pos (by decide), bind_some_, if_pos h, if_pos (by simp)]
    rfl

end Go.Proofs.YtahedflmojodmaaGreat.Pure
