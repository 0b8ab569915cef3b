/- News; states left behind; the requests that are left. -/
import Derived.Test.YtdcbapdakaaeoaaGreatEA0
import Derived.Test.YtdcbapdakaaeoaaGreatEA1
import Derived.Test.YtdcbapdakaaeoaaGreatEA2
import Derived.Test.YtdcbapdakaaeoaaGreatEA3
import Derived.Test.YtdcbapdakaaeoaaGreatEA4
import Derived.Test.YtdcbapdakaaeoaaGreatEA5
import Derived.Test.YtdcbapdakaaeoaaGreatEA6
import Derived.Test.YtdcbapdakaaeoaaGreatEA7
import Derived.Test.YtdcbapdakaaeoaaGreatPl
import Derived.Test.YtdcbapdakaaeoaaGreatLemAA
import Derived.Test.YtdcbapdakaaeoaaGreatLemAB
import Derived.Test.YtdcbapdakaaeoaaGreatLemAC
import Derived.Test.YtdcbapdakaaeoaaGreatLemAG
import Derived.Test.YtdcbapdakaaeoaaGreatLemAD
namespace Go.Proofs.YtdcbapdakaaeoaaGreat.Pure
set_option linter.unusedVariables false
set_option linter.unusedSimpArgs false
open Go Go.RowKit Go.Proofs.YtdcbapdakaaeoaaGreat.Pv Go.Proofs.YtdcbapdakaaeoaaGreat.Pl Go.Proofs.YtdcbapdakaaeoaaGreat.EA

/-! Where a request stands, by replan. -/
theorem idxf_run1 (l : List Req) (id x y z : Int) (hl : l.length ≤ 16) : ∀ (u k : Nat), l.length - k = u → k ≤ l.length → slices_IndexFunc_api_Request_1.p2 l id x y z l.length k = spyref2_IndexOf.p2 id l l.length k := by
  intro u
  induction u with
  | zero =>
    intro k h hk
    rw [spyref2_IndexOf.p2_eq, slices_IndexFunc_api_Request_1.p2_eq, if_neg (by rw [dt]; omega), if_neg (by rw [dt]; omega)]
  | succ u ih =>
    intro k h hk
    rw [spyref2_IndexOf.p2_eq, slices_IndexFunc_api_Request_1.p2_eq, replan_session_broken_c1_eq, bind_some_, wi_nat (by omega), ih (k + 1) (by omega) (by omega)]
theorem idxf_same1 (p : Progr) (id x y z : Int) (hl : p.2.length ≤ 16) : slices_IndexFunc_api_Request_1 p.2 id x y z = spyref2_IndexOf p id := by
  rw [slices_IndexFunc_api_Request_1_eq, spyref2_IndexOf_eq]
  exact idxf_run1 p.2 id x y z hl _ 0 rfl (by omega)
/-! Kept visits, the one under way, the state left behind. -/
theorem replans_ok : spylaw2_replans = some true := callL_some.2 ⟨400, by kernel_rfl⟩
abbrev Regular (v : Int × Int × Int × Int) : Prop := 0 ≤ v.2.1 ∧ v.2.1 ≤ 64 ∧ 0 ≤ v.2.2.1 ∧ v.2.2.1 ≤ 64 ∧ 0 ≤ v.2.2.2 ∧ v.2.2.2 ≤ 64
theorem regular_val (v : Int × Int × Int × Int) : replan_regular v = some (decide (Regular v)) := by
  have step : ∀ (a b c : Int) (k : Nat) (r : Option Bool), k < 3 → replan_regular.p2 [a, b, c] 3 ((k + 1 : Nat) : Int) = r → replan_regular.p2 [a, b, c] 3 k = if 0 ≤ [a, b, c].getD k 0 ∧ [a, b, c].getD k 0 ≤ 64 then r else some false := by
    intro a b c k r hk hr
    rw [replan_regular.p2_eq, if_pos (by rw [dt]; omega), if_pos (by omega), if_pos (by simp only [List.length_cons, List.length_nil]; omega), toNat_nat, wi_nat (by omega), hr]
    by_cases h1 : [a, b, c].getD k 0 < 0
    · rw [if_neg (by rw [df]; exact fun q => q h1), if_neg (by omega)]
    · rw [if_pos (by rw [df]; exact h1)]
      by_cases h2 : [a, b, c].getD k 0 > 64
      · rw [if_pos (by rw [dt]; exact h2), if_neg (by omega)]
      · rw [if_neg (by rw [dt]; exact h2), if_pos (by omega)]
  have e3 : replan_regular.p2 [v.2.1, v.2.2.1, v.2.2.2] 3 ((3 : Nat) : Int) = some true := by
    rw [replan_regular.p2_eq, if_neg (by decide)]
  have e2 := step v.2.1 v.2.2.1 v.2.2.2 2 _ (by omega) e3
  have e1 := step v.2.1 v.2.2.1 v.2.2.2 1 _ (by omega) e2
  have e0 := step v.2.1 v.2.2.1 v.2.2.2 0 _ (by omega) e1
  rw [replan_regular_eq]
  refine Eq.trans (show replan_regular.p2 [v.2.1, v.2.2.1, v.2.2.2] 3 0 = _ from e0) ?_
  show (if 0 ≤ v.2.1 ∧ v.2.1 ≤ 64 then (if 0 ≤ v.2.2.1 ∧ v.2.2.1 ≤ 64 then (if 0 ≤ v.2.2.2 ∧ v.2.2.2 ≤ 64 then some true else some false) else some false) else some false) = _
  repeat' (refine ite_eq (fun _ => ?_) (fun _ => ?_))
  all_goals (congr 1; symm; first | (rw [dt]; omega) | (rw [df]; omega))
theorem regular_ref (v : Int × Int × Int × Int) : spyref2_RegularVisit v = some (decide (Regular v)) := by
  rw [spyref2_RegularVisit_eq]
  simp only [in_val, bind_some_, dt]
  unfold Regular
  repeat' (refine ite_eq (fun _ => ?_) (fun _ => ?_))
  all_goals (congr 1; first | (rw [decide_eq_decide]; omega) | (symm; rw [df]; omega))
theorem kept_run (l : List (Int × Int × Int × Int)) (at_ : Int) (hl : l.length < 9223372036854775807) : ∀ (u k : Nat), l.length - k = u → k ≤ l.length → (∀ j, j < k → Regular (l.getD j (0, 0, 0, 0)) ∧ (l.getD j (0, 0, 0, 0)).2.2.1 + (l.getD j (0, 0, 0, 0)).2.2.2 ≤ at_) →
    ∃ r : Nat, r ≤ l.length ∧ replan_Kept.p2 l at_ l l.length k = some (r : Int) ∧ spyref2_KeptOf.p2 l at_ k = some (r : Int) ∧ ∀ j, j < r → Regular (l.getD j (0, 0, 0, 0)) ∧ (l.getD j (0, 0, 0, 0)).2.2.1 + (l.getD j (0, 0, 0, 0)).2.2.2 ≤ at_ := by
  intro u
  induction u with
  | zero =>
    intro k hu hk h
    refine ⟨k, hk, ?_, ?_, h⟩
    · rw [replan_Kept.p2_eq, if_neg (by rw [dt]; omega), show k = l.length by omega]
    · rw [spyref2_KeptOf.p2_eq, if_neg (by rw [dt]; omega)]
  | succ u ih =>
    intro k hu hk h
    have a1 : replan_Kept.p2 l at_ l l.length k = if Regular (l.getD k (0, 0, 0, 0)) then (if (l.getD k (0, 0, 0, 0)).2.2.1 + (l.getD k (0, 0, 0, 0)).2.2.2 ≤ at_ then replan_Kept.p2 l at_ l l.length ((k + 1 : Nat) : Int) else some (k : Int)) else some (k : Int) := by
      rw [replan_Kept.p2_eq, if_pos (by rw [dt]; omega), if_pos (by omega), if_pos (by omega), toNat_nat, regular_val, bind_some_, wi_nat (by omega)]
      by_cases c : Regular (l.getD k (0, 0, 0, 0))
      · rw [if_pos (by rw [not_f, dt]; exact c), if_pos c]
        unfold Regular at c
        rw [wi (by omega) (by omega)]
        by_cases g : (l.getD k (0, 0, 0, 0)).2.2.1 + (l.getD k (0, 0, 0, 0)).2.2.2 ≤ at_
        · rw [if_neg (by rw [dt]; omega), if_pos g]
        · rw [if_pos (by rw [dt]; omega), if_neg g]
      · rw [if_neg (by rw [not_f, dt]; exact c), if_neg c]
    have a2 : spyref2_KeptOf.p2 l at_ k = if Regular (l.getD k (0, 0, 0, 0)) then (if (l.getD k (0, 0, 0, 0)).2.2.1 + (l.getD k (0, 0, 0, 0)).2.2.2 ≤ at_ then spyref2_KeptOf.p2 l at_ ((k + 1 : Nat) : Int) else some (k : Int)) else some (k : Int) := by
      rw [spyref2_KeptOf.p2_eq, if_pos (by rw [dt]; omega), if_pos (by omega), if_pos (by omega), toNat_nat, regular_ref, bind_some_, wi_nat (by omega)]
      by_cases c : Regular (l.getD k (0, 0, 0, 0))
      · rw [if_pos (by rw [dt]; exact c), if_pos c, if_pos (by omega), if_pos (by omega), if_pos (by omega), if_pos (by omega)]
        unfold Regular at c
        rw [wi (by omega) (by omega)]
        by_cases g : (l.getD k (0, 0, 0, 0)).2.2.1 + (l.getD k (0, 0, 0, 0)).2.2.2 ≤ at_
        · rw [if_pos (by rw [dt]; exact g), if_pos g]
        · rw [if_neg (by rw [dt]; exact g), if_neg g]
      · rw [if_neg (by rw [dt]; exact c), if_neg c]
    rw [a1, a2]
    by_cases c : Regular (l.getD k (0, 0, 0, 0))
    · by_cases g : (l.getD k (0, 0, 0, 0)).2.2.1 + (l.getD k (0, 0, 0, 0)).2.2.2 ≤ at_
      · rw [if_pos c, if_pos g, if_pos c, if_pos g]
        refine ih (k + 1) (by omega) (by omega) fun j hj => ?_
        by_cases e : j = k
        · subst e; exact ⟨c, g⟩
        · exact h j (by omega)
      · rw [if_pos c, if_neg g, if_pos c, if_neg g]
        exact ⟨k, hk, rfl, rfl, h⟩
    · rw [if_neg c, if_neg c]
      exact ⟨k, hk, rfl, rfl, h⟩
theorem kept_same (l : List (Int × Int × Int × Int)) (at_ : Int) (hl : l.length < 9223372036854775807) : ∃ r : Nat, r ≤ l.length ∧ replan_Kept l at_ = some (r : Int) ∧ spyref2_KeptOf l at_ = some (r : Int) ∧ ∀ j, j < r → Regular (l.getD j (0, 0, 0, 0)) ∧ (l.getD j (0, 0, 0, 0)).2.2.1 + (l.getD j (0, 0, 0, 0)).2.2.2 ≤ at_ := by
  rw [replan_Kept_eq, spyref2_KeptOf_eq]
  exact kept_run l at_ hl _ 0 rfl (by omega) fun j h => absurd h (by omega)
theorem under_same (l : List (Int × Int × Int × Int)) (at_ : Int) (hl : l.length < 9223372036854775807) : ∃ w, replan_UnderWay l at_ = some w ∧ spyref2_UnderWayOf l at_ = some w ∧ (w.2 = true → Regular w.1) := by
  obtain ⟨r, hr, h1, h2, _⟩ := kept_same l at_ hl
  rw [replan_UnderWay_eq, spyref2_UnderWayOf_eq, h1, h2, bind_some_, bind_some_]
  by_cases c : r = l.length
  · rw [if_neg (show ¬ ((r : Int) == (l.length : Int)) = false by rw [c]; simp), if_neg (show ¬ decide ((r : Int) < (l.length : Int)) = true by rw [dt]; omega)]
    exact ⟨_, rfl, rfl, fun h => by cases h⟩
  · rw [if_pos (show ((r : Int) == (l.length : Int)) = false by rw [beq_eq_false_iff_ne]; omega), if_pos (show decide ((r : Int) < (l.length : Int)) = true by rw [dt]; omega)]
    have a1 : (r : Int) < (l.length : Int) := by omega
    have a2 : 0 ≤ (r : Int) := by omega
    simp only [if_pos a1, if_pos a2, toNat_nat, regular_val, regular_ref, bind_some_]
    by_cases g : Regular (l.getD r (0, 0, 0, 0))
    · rw [if_pos (show (!decide (Regular (l.getD r (0, 0, 0, 0)))) = false by rw [not_f, dt]; exact g), if_pos (show decide (Regular (l.getD r (0, 0, 0, 0))) = true by rw [dt]; exact g)]
      by_cases q : IntKind.i64.wrap ((l.getD r (0, 0, 0, 0)).2.2.1 - (l.getD r (0, 0, 0, 0)).2.1) < at_
      · rw [if_neg (show ¬ decide (IntKind.i64.wrap ((l.getD r (0, 0, 0, 0)).2.2.1 - (l.getD r (0, 0, 0, 0)).2.1) ≥ at_) = true by rw [dt]; omega), if_pos (show decide (IntKind.i64.wrap ((l.getD r (0, 0, 0, 0)).2.2.1 - (l.getD r (0, 0, 0, 0)).2.1) < at_) = true by rw [dt]; exact q)]
        exact ⟨_, rfl, rfl, fun _ => g⟩
      · rw [if_pos (show decide (IntKind.i64.wrap ((l.getD r (0, 0, 0, 0)).2.2.1 - (l.getD r (0, 0, 0, 0)).2.1) ≥ at_) = true by rw [dt]; omega), if_neg (show ¬ decide (IntKind.i64.wrap ((l.getD r (0, 0, 0, 0)).2.2.1 - (l.getD r (0, 0, 0, 0)).2.1) < at_) = true by rw [dt]; exact q)]
        exact ⟨_, rfl, rfl, fun h => by cases h⟩
    · rw [if_neg (show ¬ (!decide (Regular (l.getD r (0, 0, 0, 0)))) = false by rw [not_f, dt]; exact g), if_neg (show ¬ decide (Regular (l.getD r (0, 0, 0, 0))) = true by rw [dt]; exact g)]
      exact ⟨_, rfl, rfl, fun h => by cases h⟩
theorem concat_two (a b : List (Int × Int × Int × Int)) (h : a.length + b.length ≤ 100000) : slices_Concat_api_Visit [a, b] = some (a ++ b) := by
  have g : ∀ n : Nat, n ≤ 100000 → slices_Grow_api_Visit (n : Int) = some [] := by
    intro n hn
    rw [slices_Grow_api_Visit_eq, if_neg (by rw [dt]; omega), wi (x := (n : Int) - 0) (by omega) (by omega)]
    by_cases z : (n : Int) - 0 > 0
    · rw [if_pos (by rw [dt]; exact z), if_pos (by omega), if_pos (by omega), if_pos (by omega)]
      rfl
    · rw [if_neg (by rw [dt]; exact z)]
  have q0 : ∀ x y : List (Int × Int × Int × Int), [x, y].getD 0 [] = x := fun _ _ => rfl
  have q1 : ∀ x y : List (Int × Int × Int × Int), [x, y].getD 1 [] = y := fun _ _ => rfl
  have w1 : IntKind.i64.wrap (0 + 1) = 1 := by decide +kernel
  have w2 : IntKind.i64.wrap (1 + 1) = 2 := by decide +kernel
  have l2 : ([a, b].length : Int) = 2 := rfl
  have t0 : (0 : Int).toNat = 0 := rfl
  have t1 : (1 : Int).toNat = 1 := rfl
  rw [slices_Concat_api_Visit_eq, slices_Concat_api_Visit.p3_eq]
  simp only [l2, t0, q0, w1]
  rw [if_pos (by decide), if_pos (by decide), if_pos (by decide), wi (x := 0 + (a.length : Int)) (by omega) (by omega), if_neg (by rw [dt]; omega), slices_Concat_api_Visit.p3_eq]
  simp only [l2, t1, q1, w2]
  rw [if_pos (by decide), if_pos (by decide), if_pos (by decide), wi (x := 0 + (a.length : Int) + (b.length : Int)) (by omega) (by omega), if_neg (by rw [dt]; omega), slices_Concat_api_Visit.p3_eq]
  rw [if_neg (by decide), show 0 + (a.length : Int) + (b.length : Int) = ((a.length + b.length : Nat) : Int) by omega, g _ h, bind_some_, slices_Concat_api_Visit.p11_eq]
  simp only [l2, t0, q0, w1]
  rw [if_pos (by decide), if_pos (by decide), if_pos (by decide), if_pos (by simp only [List.length_nil]; omega), slices_Concat_api_Visit.p11_eq]
  simp only [l2, t1, q1, w2]
  rw [if_pos (by decide), if_pos (by decide), if_pos (by decide), if_pos (by simp only [List.nil_append]; omega), slices_Concat_api_Visit.p11_eq, if_neg (by decide)]
  rfl
abbrev Sess : Type := Night × Mount_ × Progr × State_ × List (Int × Int × Int × Int) × List (Int × Int × Int × Int)
theorem leave_run {n : Night} {m : Mount_} {p : Progr} {cl : List (List Int)} {aim : List (List (Int × Int))} (hn : prop_CheckNight n = some 0) (hm : slew_CheckMount m = some 0) (ok : NightOk n) (mk : MtOk m) (pk : ProgOk p) (dk : DeskOk n p cl aim) (l t : List (Int × Int × Int × Int)) (ht : t.length < 9223372036854775807) (at_ : Int) (kk : Int) (ss : Sess) (b8 : State_) (s0 : Int) (reg : ∀ j, j < t.length → (t.getD j (0, 0, 0, 0)).2.2.1 + (t.getD j (0, 0, 0, 0)).2.2.2 ≤ at_) : ∀ (u k : Nat) (s : State_), t.length - k = u → k ≤ t.length → Fits n m p s → s.1 ≤ at_ → s0 + (k : Int) ≤ s.1 →
    (∃ e, e ≠ 0 ∧ replan_session_leave.p9 at_ kk t t.length k (n, m, p, cl, aim) s ss = some (e, ss) ∧ spyref2_Table_Leave.p5 l at_ kk t t.length k (n, m, p, cl) s b8 = some ((0, (0, 0), []), 0, e)) ∨
    (∃ q, Fits n m p q ∧ q.1 ≤ at_ ∧ s0 + (t.length : Int) ≤ q.1 ∧ replan_session_leave.p9 at_ kk t t.length k (n, m, p, cl, aim) s ss = replan_session_leave.p9 at_ kk t t.length t.length (n, m, p, cl, aim) q ss ∧ spyref2_Table_Leave.p5 l at_ kk t t.length k (n, m, p, cl) s b8 = spyref2_Table_Leave.p5 l at_ kk t t.length t.length (n, m, p, cl) q b8) := by
  intro u
  induction u with
  | zero =>
    intro k s hu hk hs h1 h2
    obtain rfl : k = t.length := by omega
    exact .inr ⟨s, hs, h1, h2, rfl, rfl⟩
  | succ u ih =>
    intro k s hu hk hs h1 h2
    obtain ⟨q, e, e1, e2, e3, e4⟩ := step_fit hn hm ok mk pk dk hs (t.getD k (0, 0, 0, 0))
    have f1 : replan_session_leave.p9 at_ kk t t.length k (n, m, p, cl, aim) s ss = if (e != 0) = true then some (e, ss) else replan_session_leave.p9 at_ kk t t.length ((k + 1 : Nat) : Int) (n, m, p, cl, aim) q ss := by
      rw [replan_session_leave.p9_eq, if_pos (by rw [dt]; omega), if_pos (by omega), if_pos (by omega), toNat_nat, e1, bind_some_, wi_nat (by omega)]
    have f2 : spyref2_Table_Leave.p5 l at_ kk t t.length k (n, m, p, cl) s b8 = if (e != 0) = true then some ((0, (0, 0), []), 0, e) else spyref2_Table_Leave.p5 l at_ kk t t.length ((k + 1 : Nat) : Int) (n, m, p, cl) q b8 := by
      rw [spyref2_Table_Leave.p5_eq, if_pos (by rw [dt]; omega), if_pos (by omega), if_pos (by omega), toNat_nat, e2, bind_some_, wi_nat (by omega)]
    rw [f1, f2]
    by_cases he : e = 0
    · subst he
      obtain ⟨g1, i, _, g2, g3⟩ := e4 rfl
      have r1 := reg k (by omega)
      have rl := req_len pk g2.hi
      have hz : (0, 0, (0, 0, 0), 0, 0, 0, 0, 0, 0, 0, 0) = zreq := rfl
      rw [hz] at rl
      have g4 := g2.lo
      rw [if_neg (show ¬ ((0 : Int) != 0) = true by decide), if_neg (show ¬ ((0 : Int) != 0) = true by decide)]
      exact ih (k + 1) q (by omega) (by omega) g1 (by omega) (by omega)
    · rw [if_pos (show (e != 0) = true by rw [ne_t]; exact he), if_pos (show (e != 0) = true by rw [ne_t]; exact he)]
      exact .inl ⟨e, he, rfl, rfl⟩
theorem aim_any {n : Night} (hn : prop_CheckNight n = some 0) (ok : NightOk n) {v : Int × Int × Int} (hv : sphere_Check v = some 0) (k : Int) : ∃ r, slew_Aim n v k = some r ∧ (r.2 = 0 → 0 ≤ k ∧ k ≤ n.2.2.2.2.1) := by
  by_cases h0 : 0 ≤ k
  · by_cases h1 : k ≤ n.2.2.2.2.1
    · obtain ⟨a, a1, _⟩ := aim_def hn ok hv h0 h1
      exact ⟨_, a1, fun _ => ⟨h0, h1⟩⟩
    · rw [slew_Aim_eq, hn, bind_some_, if_neg (by decide), if_pos (by rw [df]; omega), if_pos (by rw [dt]; omega)]
      exact ⟨_, rfl, fun h => by cases h⟩
  · rw [slew_Aim_eq, hn, bind_some_, if_neg (by decide), if_neg (by rw [df]; omega)]
    exact ⟨_, rfl, fun h => by cases h⟩
theorem leave_same {n : Night} {m : Mount_} {p : Progr} {cl : List (List Int)} {aim : List (List (Int × Int))} (hn : prop_CheckNight n = some 0) (hm : slew_CheckMount m = some 0) (ok : NightOk n) (mk : MtOk m) (pk : ProgOk p) (dk : DeskOk n p cl aim) (hd : plan_NewDesk n m p = some ((n, m, p, cl, aim), 0)) {base : State_} (hb : Fits n m p base) (done rest : List (Int × Int × Int × Int)) (hdone : done.length ≤ 2000) (hl : rest.length < 9223372036854775807) (at_ : Int) :
    ∃ q k e, spyref2_Table_Leave (n, m, p, cl) base rest at_ = some (q, k, e) ∧ (e ≠ 0 → q = (0, (0, 0), []) ∧ ∃ s', replan_session_leave (n, m, p, base, done, rest) at_ = some (e, s')) ∧
      (e = 0 → ∃ kk : Nat, k = (kk : Int) ∧ kk ≤ rest.length ∧ base.1 + (kk : Int) ≤ n.2.2.2.2.1 ∧ Fits n m p q ∧ base.1 ≤ q.1 ∧ replan_session_leave (n, m, p, base, done, rest) at_ = some (0, n, m, p, q, done ++ rest.take kk, [])) := by
  have h64 := ok.slots
  have hr := pk.reqs
  have hbs := hb.slot
  have bad : ∀ (e : Int) (s' : Sess), e ≠ 0 → ∀ {x : Option (State_ × Int × Int)} {y : Option (Int × Sess)}, x = some ((0, (0, 0), []), 0, e) → y = some (e, s') → ∃ q k e, x = some (q, k, e) ∧ (e ≠ 0 → q = (0, (0, 0), []) ∧ ∃ s', y = some (e, s')) ∧ (e = 0 → ∃ kk : Nat, k = (kk : Int) ∧ kk ≤ rest.length ∧ base.1 + (kk : Int) ≤ n.2.2.2.2.1 ∧ Fits n m p q ∧ base.1 ≤ q.1 ∧ y = some (0, n, m, p, q, done ++ rest.take kk, [])) := fun e s' he x y hx hy => ⟨_, _, e, hx, fun _ => ⟨rfl, s', hy⟩, fun h => absurd h he⟩
  rw [replan_session_leave_eq, spyref2_Table_Leave_eq]
  simp only
  rw [hd, bind_some_, in_val, bind_some_, if_neg (show ¬ ((0 : Int) != 0) = true by decide)]
  by_cases c : base.1 ≤ at_ ∧ at_ ≤ n.2.2.2.2.1
  case neg =>
    rw [if_pos (show (!decide (base.1 ≤ at_ ∧ at_ ≤ n.2.2.2.2.1)) = true by rw [not_t, df]; exact c)]
    by_cases c1 : at_ < base.1
    · rw [if_neg (show ¬ decide (at_ < base.1) = false by rw [df]; exact fun q => q c1)]
      exact bad 4 _ (by decide) rfl rfl
    · rw [if_pos (show decide (at_ < base.1) = false by rw [df]; exact c1), if_pos (show decide (at_ > n.2.2.2.2.1) = true by rw [dt]; omega)]
      exact bad 4 _ (by decide) rfl rfl
  rw [if_neg (show ¬ (!decide (base.1 ≤ at_ ∧ at_ ≤ n.2.2.2.2.1)) = true by rw [not_t, df]; exact fun q => q c), if_pos (show decide (at_ < base.1) = false by rw [df]; omega), if_neg (show ¬ decide (at_ > n.2.2.2.2.1) = true by rw [dt]; omega)]
  obtain ⟨r, r0, r1, r2, r3⟩ := kept_same rest at_ hl
  rw [r1, r2, bind_some_, bind_some_, if_pos (show (0 : Int) ≤ (r : Int) by omega), if_pos (show (0 : Int) ≤ (r : Int) by omega), if_pos (show (r : Int) ≤ (rest.length : Int) by omega), if_pos (show (r : Int) ≤ (rest.length : Int) by omega), toNat_nat]
  have tl : (rest.take r).length = r := by simp; omega
  have reg : ∀ j, j < (rest.take r).length → ((rest.take r).getD j (0, 0, 0, 0)).2.2.1 + ((rest.take r).getD j (0, 0, 0, 0)).2.2.2 ≤ at_ := fun j hj => by
    rw [tl] at hj
    have := (r3 j hj).2
    rw [List.getD_eq_getElem?_getD, List.getElem?_take_of_lt hj, ← List.getD_eq_getElem?_getD]
    exact this
  have run := leave_run hn hm ok mk pk dk rest (rest.take r) (by omega) at_ r (n, m, p, base, done, rest) (0, (0, 0), []) base.1 reg _ 0 base rfl (by omega) hb c.1 (by omega)
  rw [show ((0 : Nat) : Int) = 0 from rfl] at run
  rcases run with ⟨e, e0, e1, e2⟩ | ⟨q, q1, q2, q3, q4, q5⟩
  · exact bad e _ e0 e2 e1
  · rw [q4, q5, replan_session_leave.p9_eq, spyref2_Table_Leave.p5_eq, if_neg (show ¬ decide (((rest.take r).length : Int) < ((rest.take r).length : Int)) = true by rw [dt]; omega), if_neg (show ¬ decide (((rest.take r).length : Int) < ((rest.take r).length : Int)) = true by rw [dt]; omega)]
    simp only
    have hq := q1.slot
    have fin : ∀ q' : State_, replan_session_leave.p21 r q' (n, m, p, base, done, rest) = some (0, n, m, p, q', done ++ rest.take r, []) := fun q' => by
      rw [replan_session_leave.p21_eq]
      simp only
      rw [if_pos (by omega), if_pos (by omega), toNat_nat, concat_two _ _ (by omega), bind_some_]
    have good : ∀ (q' : State_), Fits n m p q' → base.1 ≤ q'.1 → ∀ {x : Option (State_ × Int × Int)} {y : Option (Int × Sess)}, x = some (q', (r : Int), 0) → y = some (0, n, m, p, q', done ++ rest.take r, []) → ∃ q k e, x = some (q, k, e) ∧ (e ≠ 0 → q = (0, (0, 0), []) ∧ ∃ s', y = some (e, s')) ∧ (e = 0 → ∃ kk : Nat, k = (kk : Int) ∧ kk ≤ rest.length ∧ base.1 + (kk : Int) ≤ n.2.2.2.2.1 ∧ Fits n m p q ∧ base.1 ≤ q.1 ∧ y = some (0, n, m, p, q, done ++ rest.take kk, [])) := fun q' f1 f2 x y hx hy => ⟨q', _, 0, hx, fun h => absurd rfl h, fun _ => ⟨r, rfl, r0, by omega, f1, f2, hy⟩⟩
    obtain ⟨w, w1, w2, w3⟩ := under_same rest at_ hl
    rw [w1, w2, bind_some_, bind_some_]
    by_cases hw : w.2 = true
    case neg =>
      rw [if_neg hw, if_pos (show (!w.2) = true by simpa using hw), fin]
      exact good (at_, q.2) (q1.moved (a := q.2.1) q2 c.2 q1.az q1.alt) (by simp only; omega) rfl rfl
    rw [if_pos hw, if_neg (show ¬ (!w.2) = true by simp [hw]), replan_session_broken_eq]
    simp only
    have rg := w3 hw
    unfold Regular at rg
    rw [idxf_same1 p _ _ _ _ hr]
    rcases index_of p w.1.1 hr with ⟨h1, h2⟩ | ⟨j, hj, h1, h2⟩
    · rw [h1, bind_some_, bind_some_, if_pos (show decide ((-1 : Int) < 0) = true by decide), if_pos (show decide ((-1 : Int) < 0) = true by decide), bind_some_, if_pos (show ((8 : Int) != 0) = true by decide)]
      exact bad 8 _ (by decide) rfl rfl
    · have hrf := req_fault pk hj
      rw [h1, bind_some_, bind_some_, if_neg (show ¬ decide ((j : Int) < 0) = true by rw [dt]; omega), if_neg (show ¬ decide ((j : Int) < 0) = true by rw [dt]; omega)]
      simp only [if_pos (show (0 : Int) ≤ (j : Int) by omega), if_pos (show (j : Int) < (p.2.length : Int) by omega), toNat_nat]
      obtain ⟨a, a1, a2⟩ := aim_any hn ok (request_dir hrf) w.1.2.2.1
      rw [a1, bind_some_, bind_some_]
      by_cases z1 : a.2 = 0
      case neg =>
        have nz : (a.2 != 0) = true := by rw [ne_t]; exact z1
        rw [if_pos nz, if_pos nz, bind_some_, if_pos nz]
        exact bad a.2 _ z1 rfl rfl
      have nz : ¬ (a.2 != 0) = true := by rw [ne_t]; exact fun q => q z1
      have wt := aim_wf a1
      rw [if_neg nz, if_neg nz]
      obtain ⟨x, x1, x2, _, _⟩ := to_def m q.2.1 a.1 wt.1 wt.2
      rw [x1, bind_some_, bind_some_]
      by_cases z2 : x.2.2 = 0
      case neg =>
        have nz : (x.2.2 != 0) = true := by rw [ne_t]; exact z2
        rw [if_pos nz, if_pos nz, bind_some_, if_pos nz]
        exact bad x.2.2 _ z2 rfl rfl
      have nz2 : ¬ (x.2.2 != 0) = true := by rw [ne_t]; exact fun q => q z2
      have xo := x2 z2
      rw [if_neg nz2, if_neg nz2]
      by_cases z3 : at_ ≤ w.1.2.2.1
      · have d3 : decide (at_ ≤ w.1.2.2.1) = true := by rw [dt]; exact z3
        rw [if_pos d3, if_pos d3, bind_some_, if_neg (show ¬ ((0 : Int) != 0) = true by decide), fin]
        exact good (w.1.2.2.1, x.1, q.2.2) (q1.moved (by omega) (a2 z1).2 xo.p1 xo.p2) (by simp only; omega) rfl rfl
      · have d3 : ¬ decide (at_ ≤ w.1.2.2.1) = true := by rw [dt]; exact z3
        rw [if_neg d3, if_neg d3]
        obtain ⟨t, t1, t2⟩ := track_def m n x.1 (p.2.getD j zreq).2.2.1 w.1.2.2.1 at_ hm hn ok mk (request_dir hrf)
        have hz : (0, 0, (0, 0, 0), 0, 0, 0, 0, 0, 0, 0, 0) = zreq := rfl
        rw [hz, t1, bind_some_, bind_some_]
        by_cases z4 : t.2 = 0
        case neg =>
          have nz : (t.2 != 0) = true := by rw [ne_t]; exact z4
          rw [if_pos nz, if_pos nz, bind_some_, if_pos nz]
          exact bad t.2 _ z4 rfl rfl
        have nz4 : ¬ (t.2 != 0) = true := by rw [ne_t]; exact fun q => q z4
        rw [if_neg nz4, if_neg nz4, bind_some_, if_neg (show ¬ ((0 : Int) != 0) = true by decide), fin]
        exact good (at_, t.1, q.2.2) (q1.moved q2 c.2 (t2 z4).1 (t2 z4).2) (by simp only; omega) rfl rfl
theorem from_fit {n : Night} {m : Mount_} {p : Progr} {cl : List (List Int)} {aim : List (List (Int × Int))} (hn : prop_CheckNight n = some 0) (hm : slew_CheckMount m = some 0) (ok : NightOk n) (mk : MtOk m) (pk : ProgOk p) (dk : DeskOk n p cl aim) (hp : prop_Check p = some 0) {s : State_} (hs : Fits n m p s) : ∃ l, plan_Desk_From (n, m, p, cl, aim) s = some (l, 0) ∧ spyref2_Table_Plan (n, m, p, cl) s = some l ∧ (l.length : Int) ≤ 64 := by
  have st := hs.ok
  obtain ⟨l, l1, l2, l3⟩ := from_run hn hm ok mk pk dk hp _ s [] rfl st (by have := hs.slot; simp; omega)
  refine ⟨l, ?_, ?_, l3⟩
  · rw [plan_Desk_From_eq, desk_check ok, (fits_iff ok pk).2 hs, bind_some_, if_neg (show ¬ ((0 : Int) != 0) = true by decide), st_clone pk st, bind_some_]
    exact l1
  · rw [spyref2_Table_Plan_eq, l2]
/-! News: the program's check is the reference's. -/
theorem newsidx_run (l : List Req) (id : Int) (hl : l.length ≤ 16) : ∀ (u k : Nat), l.length - k = u → k ≤ l.length → ∃ r, slices_IndexFunc_api_Request.p2 l id l.length k = some r ∧ spyref2_IndexOf.p2 id l l.length k = some r := by
  intro u
  induction u with
  | zero =>
    intro k h hk
    rw [slices_IndexFunc_api_Request.p2_eq, spyref2_IndexOf.p2_eq, if_neg (by rw [dt]; omega), if_neg (by rw [dt]; omega)]
    exact ⟨_, rfl, rfl⟩
  | succ u ih =>
    intro k h hk
    have a : decide ((k : Int) < (l.length : Int)) = true := by rw [dt]; omega
    rw [slices_IndexFunc_api_Request.p2_eq, spyref2_IndexOf.p2_eq]
    simp only [if_pos a, if_pos (show (0 : Int) ≤ k by omega), if_pos (show (k : Int) < l.length by omega), replan_Check_c1_eq, bind_some_, wi_nat (show k < 9223372036854775807 by omega)]
    by_cases c : ((l.getD (k : Int).toNat (0, 0, (0, 0, 0), 0, 0, 0, 0, 0, 0, 0, 0)).1 == id) = true
    · rw [if_pos c, if_pos c]
      exact ⟨_, rfl, rfl⟩
    · rw [if_neg c, if_neg c]
      exact ih (k + 1) (by omega) (by omega)
theorem contains_run (l : List Int) (id : Int) (hl : l.length ≤ 1000) : ∀ (u k : Nat), l.length - k = u → k ≤ l.length → ∃ r, slices_Index_int_int.p2 l id l.length k = some r ∧ (r ≥ 0 ↔ id ∈ l.drop k) := by
  intro u
  induction u with
  | zero =>
    intro k h hk
    rw [slices_Index_int_int.p2_eq, if_neg (by rw [dt]; omega), List.drop_eq_nil_of_le (by omega)]
    exact ⟨_, rfl, by simp⟩
  | succ u ih =>
    intro k h hk
    have hlt : k < l.length := by omega
    rw [slices_Index_int_int.p2_eq, if_pos (by rw [dt]; omega), if_pos (by omega), if_pos (by omega), toNat_nat, getD_nat _ _ hlt, wi_nat (by omega), List.drop_eq_getElem_cons hlt]
    by_cases c : id = l[k]
    · rw [if_pos (by rw [eq_t]; exact c)]
      exact ⟨_, rfl, by rw [← c]; simp⟩
    · rw [if_neg (by rw [eq_t]; exact c)]
      obtain ⟨r, h1, h2⟩ := ih (k + 1) (by omega) (by omega)
      exact ⟨r, h1, by rw [h2, List.mem_cons]; simp [c]⟩
theorem contains_val (l : List Int) (id : Int) (hl : l.length ≤ 1000) : slices_Contains_int_int l id = some (decide (id ∈ l)) := by
  obtain ⟨r, h1, h2⟩ := contains_run l id hl _ 0 rfl (by omega)
  rw [slices_Contains_int_int_eq, slices_Index_int_int_eq]
  rw [show ((0 : Nat) : Int) = 0 from rfl] at h1
  rw [h1, bind_some_, decide_eq_decide.2 h2]
  rfl
theorem news_p13 (id : Int) (p : Progr) (x : Int × List Int × List Int) (t31 : List Int) (t32 t33 : Int) (l : List Int) (hl : l.length ≤ 16) : ∀ (u k : Nat), l.length - k = u → k ≤ l.length → spylaw2_newsFault.p13 id t31 t32 t33 l l.length k p x = if id ∈ l.drop k then some 7 else spylaw2_newsFault.p8 t31 t32 (IntKind.i64.wrap (t33 + 1)) p x := by
  intro u
  induction u with
  | zero =>
    intro k h hk
    rw [spylaw2_newsFault.p13_eq, if_neg (by rw [dt]; omega), List.drop_eq_nil_of_le (by omega), if_neg (by simp)]
  | succ u ih =>
    intro k h hk
    have hlt : k < l.length := by omega
    rw [spylaw2_newsFault.p13_eq, if_pos (by rw [dt]; omega), if_pos (by omega), if_pos (by omega), toNat_nat, getD_nat _ _ hlt, wi_nat (by omega), List.drop_eq_getElem_cons hlt]
    by_cases c : l[k] = id
    · rw [if_pos (by rw [eq_t]; exact c), if_pos (List.mem_cons.2 (.inl c.symm))]
    · rw [if_neg (by rw [eq_t]; exact c), ih (k + 1) (by omega) (by omega)]
      by_cases d : id ∈ l.drop (k + 1)
      · rw [if_pos d, if_pos (List.mem_cons.2 (.inr d))]
      · rw [if_neg d, if_neg (fun q => (List.mem_cons.1 q).elim (fun z => c z.symm) d)]
theorem news_p8 (p : Progr) (x : Int × List Int × List Int) (hp : p.2.length ≤ 16) (hx : x.2.2.length ≤ 16) : ∀ (u k : Nat), x.2.2.length - k = u → k ≤ x.2.2.length → ∃ r, replan_Check.p8 x.2.2 x.2.2.length k p x = some r ∧ spylaw2_newsFault.p8 x.2.2 x.2.2.length k p x = some r := by
  intro u
  induction u with
  | zero =>
    intro k h hk
    rw [replan_Check.p8_eq, spylaw2_newsFault.p8_eq, if_neg (by rw [dt]; omega), if_neg (by rw [dt]; omega)]
    exact ⟨_, rfl, rfl⟩
  | succ u ih =>
    intro k h hk
    have hlt : k < x.2.2.length := by omega
    have a : decide ((k : Int) < (x.2.2.length : Int)) = true := by rw [dt]; omega
    obtain ⟨r, r1, r2⟩ := newsidx_run p.2 (x.2.2.getD (k : Int).toNat 0) hp _ 0 rfl (by omega)
    rw [show ((0 : Nat) : Int) = 0 from rfl] at r1 r2
    rw [replan_Check.p8_eq, spylaw2_newsFault.p8_eq]
    simp only [if_pos a, if_pos (show (0 : Int) ≤ k by omega), if_pos (show (k : Int) < x.2.2.length by omega), if_pos (show (k : Int) ≤ x.2.2.length by omega), slices_ContainsFunc_api_Request_eq, slices_IndexFunc_api_Request_eq, spyref2_IndexOf_eq, r1, r2, bind_some_]
    by_cases c : r < 0
    · rw [if_pos (by rw [not_t, df]; omega), if_pos (by rw [dt]; exact c)]
      exact ⟨_, rfl, rfl⟩
    · rw [if_neg (by rw [not_t, df]; omega), if_neg (by rw [dt]; exact c)]
      have q := news_p13 (x.2.2.getD (k : Int).toNat 0) p x x.2.2 x.2.2.length k (x.2.2.take (k : Int).toNat) (by simp; omega) _ 0 rfl (by omega)
      rw [show ((0 : Nat) : Int) = 0 from rfl, List.drop_zero] at q
      rw [q, contains_val _ _ (by simp; omega), bind_some_, wi_nat (by omega)]
      by_cases d : x.2.2.getD (k : Int).toNat 0 ∈ x.2.2.take (k : Int).toNat
      · rw [if_pos d, if_pos (by rw [dt]; exact d)]
        exact ⟨_, rfl, rfl⟩
      · rw [if_neg d, if_neg (by rw [dt]; exact d)]
        exact ih (k + 1) (by omega) (by omega)
theorem news_same {n : Night} {p : Progr} (ok : NightOk n) (hl : p.2.length ≤ 16) (x : Int × List Int × List Int) : ∃ r, replan_Check n p x = some r ∧ spylaw2_newsFault n p x = some r ∧ (r = 0 → 0 ≤ x.1 ∧ x.1 ≤ n.2.2.2.2.1 ∧ (x.2.1.length : Int) = n.2.2.2.2.1 - x.1 ∧ x.2.2.length ≤ 16) := by
  have hs := ok.slots
  rw [replan_Check_eq, spylaw2_newsFault_eq, in_val, bind_some_]
  by_cases c1 : x.1 < 0
  · rw [if_neg (by rw [df]; exact fun q => q c1), if_pos (by rw [not_t, df]; omega)]
    exact ⟨_, rfl, rfl, fun z => by cases z⟩
  · rw [if_pos (by rw [df]; exact c1)]
    by_cases c2 : x.1 > n.2.2.2.2.1
    · rw [if_pos (by rw [dt]; exact c2), if_pos (by rw [not_t, df]; omega)]
      exact ⟨_, rfl, rfl, fun z => by cases z⟩
    · have t : ¬ (!decide (0 ≤ x.1 ∧ x.1 ≤ n.2.2.2.2.1)) = true := by rw [not_t, df]; omega
      rw [if_neg (by rw [dt]; exact c2), if_neg t]
      by_cases c3 : ((x.2.1.length : Int) != (IntKind.i64.wrap (n.2.2.2.2.1 - x.1))) = true
      · rw [if_pos c3, if_pos c3]
        exact ⟨_, rfl, rfl, fun z => by cases z⟩
      · rw [if_neg c3, if_neg c3]
        rw [wi (x := n.2.2.2.2.1 - x.1) (by omega) (by omega), ne_t] at c3
        by_cases c4 : (decide ((x.2.2.length : Int) > 16)) = true
        · rw [if_pos c4, if_pos c4]
          exact ⟨_, rfl, rfl, fun z => by cases z⟩
        · rw [if_neg c4, if_neg c4]
          rw [dt] at c4
          obtain ⟨r, r1, r2⟩ := news_p8 p x hl (by omega) _ 0 rfl (by omega)
          exact ⟨r, r1, r2, fun _ => ⟨by omega, by omega, Classical.byContradiction c3, by omega⟩⟩
/-! The requests that are left. -/
def keepG (gone : List Int) (R : List Req) (Q : List (List Int)) : List (Req × List Int) := (R.zip Q).filter fun z => decide (z.1.1 ∉ gone)
theorem keepG_take (gone : List Int) {R : List Req} {Q : List (List Int)} {k : Nat} (h1 : k < R.length) (h2 : k < Q.length) : keepG gone (R.take (k + 1)) (Q.take (k + 1)) = if R[k].1 ∈ gone then keepG gone (R.take k) (Q.take k) else keepG gone (R.take k) (Q.take k) ++ [(R[k], Q[k])] := by
  unfold keepG
  rw [List.take_succ_eq_append_getElem h1, List.take_succ_eq_append_getElem h2, List.zip_append (by rw [List.length_take, List.length_take]; omega), List.filter_append]
  by_cases c : R[k].1 ∈ gone
  · rw [if_pos c]
    simp [c]
  · rw [if_neg c]
    simp [c]
theorem keepG_len (gone : List Int) (R : List Req) (Q : List (List Int)) : (keepG gone R Q).length ≤ R.length := by
  unfold keepG
  refine Nat.le_trans (List.length_filter_le _ _) ?_
  rw [List.length_zip]
  exact Nat.min_le_left _ _
theorem keepG_at (gone : List Int) {R : List Req} {Q : List (List Int)} {j : Nat} (h : j < (keepG gone R Q).length) : ∃ i, ∃ h1 : i < R.length, ∃ h2 : i < Q.length, (keepG gone R Q)[j] = (R[i], Q[i]) := by
  have hm : (keepG gone R Q)[j] ∈ R.zip Q := (List.mem_filter.1 (List.getElem_mem h)).1
  obtain ⟨i, hi, e⟩ := List.mem_iff_getElem.1 hm
  rw [List.length_zip] at hi
  exact ⟨i, by omega, by omega, by rw [← e, List.getElem_zip]⟩
theorem plan_gone {p : Progr} (pk : ProgOk p) (gone : List Int) (hg : gone.length ≤ 1000) (n : Night) (m : Mount_) (q : State_) (hq : q.2.2.length = p.2.length) (done rest : List (Int × Int × Int × Int)) : ∀ (u k : Nat), p.2.length - k = u → k ≤ p.2.length → replan_session_plan.p4 p.2 p.2.length k p.1 q.1 q.2.1.1 q.2.1.2 ((keepG gone (p.2.take k) (q.2.2.take k)).map (·.1)) ((keepG gone (p.2.take k) (q.2.2.take k)).map (·.2)) (n, m, p, q, done, rest) gone = (plan_From n m (p.1, (keepG gone p.2 q.2.2).map (·.1)) (q.1, q.2.1, (keepG gone p.2 q.2.2).map (·.2))).bind fun r1 => some (r1.2, n, m, p, q, done, r1.1) := by
  have hr := pk.reqs
  intro u
  induction u with
  | zero =>
    intro k hu hk
    rw [replan_session_plan.p4_eq, if_neg (by rw [dt]; omega), List.take_of_length_le (by omega), List.take_of_length_le (by omega)]
  | succ u ih =>
    intro k hu hk
    have h1 : k < p.2.length := by omega
    have h2 : k < q.2.2.length := by omega
    have hk1 := keepG_len gone (p.2.take k) (q.2.2.take k)
    rw [List.length_take] at hk1
    have ih' := ih (k + 1) (by omega) (by omega)
    rw [keepG_take gone h1 h2] at ih'
    rw [replan_session_plan.p4_eq, if_pos (by rw [dt]; omega), if_pos (by omega), if_pos (by omega), contains_val _ _ hg, bind_some_, toNat_nat, getD_nat _ _ h1]
    by_cases c : p.2[k].1 ∈ gone
    · rw [if_pos c] at ih'
      rw [if_neg (by rw [not_t, df]; exact fun z => z c), wi_nat (by omega)]
      exact ih'
    · rw [if_neg c, List.map_append, List.map_append] at ih'
      rw [if_pos (by rw [not_t, df]; exact c), if_pos (by rw [List.length_map]; omega), if_pos (by omega), if_pos (by simp only; omega), if_pos (by rw [List.length_map]; omega), wi_nat (by omega)]
      simp only
      rw [getD_nat _ _ h2]
      exact ih'
theorem without_p8 (gone : List Int) (hg : gone.length ≤ 1000) (i : Int) (t25 : List Req) (t26 t27 : Int) (T : Night × Mount_ × Progr × List (List Int)) (s : State_) (a : List (ByteArray × Int)) (b c d : Int) (r : Req) (B1 : List Req) (B2 : List (List Int)) : ∀ (u k : Nat) (st : Bool), gone.length - k = u → k ≤ gone.length →
    spyref2_Table_Without.p8 gone i st t25 t26 t27 gone gone.length k T s a b c d r B1 B2 = spyref2_Table_Without.p8 gone i (st && decide (r.1 ∉ gone.drop k)) t25 t26 t27 gone gone.length gone.length T s a b c d r B1 B2 := by
  intro u
  induction u with
  | zero =>
    intro k st hu hk
    obtain rfl : k = gone.length := by omega
    rw [List.drop_length]
    simp
  | succ u ih =>
    intro k st hu hk
    have hlt : k < gone.length := by omega
    rw [spyref2_Table_Without.p8_eq, if_pos (by rw [dt]; omega), if_pos (by omega), if_pos (by omega), toNat_nat, getD_nat _ _ hlt, wi_nat (by omega), List.drop_eq_getElem_cons hlt]
    by_cases e : gone[k] = r.1
    · rw [if_pos (by rw [eq_t]; exact e), ih (k + 1) false (by omega) (by omega)]
      have : decide (r.1 ∉ gone[k] :: gone.drop (k + 1)) = false := by rw [df]; exact fun z => z (by rw [e]; exact List.mem_cons_self)
      rw [this, Bool.and_false, Bool.false_and]
    · rw [if_neg (by rw [eq_t]; exact e), ih (k + 1) st (by omega) (by omega)]
      have : decide (r.1 ∉ gone[k] :: gone.drop (k + 1)) = decide (r.1 ∉ gone.drop (k + 1)) := by
        rw [decide_eq_decide, List.mem_cons]
        exact ⟨fun z y => z (.inr y), fun z y => y.elim (fun w => e w.symm) z⟩
      rw [this]
theorem without_p4 {n : Night} {m : Mount_} {p : Progr} {cl : List (List Int)} (pk : ProgOk p) (gone : List Int) (hg : gone.length ≤ 1000) (q : State_) (hq : q.2.2.length = p.2.length) : ∀ (u k : Nat), p.2.length - k = u → k ≤ p.2.length → spyref2_Table_Without.p4 gone p.2 p.2.length k (n, m, p, cl) q p.1 q.1 q.2.1.1 q.2.1.2 ((keepG gone (p.2.take k) (q.2.2.take k)).map (·.1)) ((keepG gone (p.2.take k) (q.2.2.take k)).map (·.2)) = (spyref2_NewTable n m (p.1, (keepG gone p.2 q.2.2).map (·.1))).bind fun r => (spyref2_Table_Plan r (q.1, q.2.1, (keepG gone p.2 q.2.2).map (·.2))).bind fun r1 => some r1 := by
  have hr := pk.reqs
  intro u
  induction u with
  | zero =>
    intro k hu hk
    rw [spyref2_Table_Without.p4_eq, if_neg (by rw [dt]; omega), List.take_of_length_le (by omega), List.take_of_length_le (by omega), spyref2_Table_Without.p17_eq]
  | succ u ih =>
    intro k hu hk
    have h1 : k < p.2.length := by omega
    have h2 : k < q.2.2.length := by omega
    have hk1 := keepG_len gone (p.2.take k) (q.2.2.take k)
    rw [List.length_take] at hk1
    have ih' := ih (k + 1) (by omega) (by omega)
    rw [keepG_take gone h1 h2] at ih'
    have e8 := without_p8 gone hg k p.2 p.2.length k (n, m, p, cl) q p.1 q.1 q.2.1.1 q.2.1.2 p.2[k] ((keepG gone (p.2.take k) (q.2.2.take k)).map (·.1)) ((keepG gone (p.2.take k) (q.2.2.take k)).map (·.2)) _ 0 true rfl (by omega)
    rw [show ((0 : Nat) : Int) = 0 from rfl, List.drop_zero, Bool.true_and] at e8
    rw [spyref2_Table_Without.p4_eq, if_pos (by rw [dt]; omega), if_pos (by omega), if_pos (by omega), toNat_nat, getD_nat _ _ h1, e8, spyref2_Table_Without.p8_eq, if_neg (show ¬ decide ((gone.length : Int) < (gone.length : Int)) = true by rw [dt]; omega), wi_nat (by omega)]
    by_cases c : p.2[k].1 ∈ gone
    · rw [if_pos c] at ih'
      rw [if_neg (by rw [dt]; exact fun z => z c)]
      exact ih'
    · rw [if_neg c, List.map_append, List.map_append] at ih'
      rw [if_pos (by rw [dt]; exact c), if_pos (by rw [List.length_map]; omega), if_pos (by omega), if_pos (by omega), if_pos (by rw [List.length_map]; omega), toNat_nat]
      rw [getD_nat _ _ h2]
      exact ih'
/-! What is left of a programme is a programme. -/
theorem prog_nodup {p : Progr} (pk : ProgOk p) : (p.2.map (·.1)).Nodup := by
  rw [List.Nodup, List.pairwise_iff_getElem]
  intro i j hi hj hij
  rw [List.length_map] at hi hj
  rw [List.getElem_map, List.getElem_map]
  intro e
  refine (pk.at_ j hj).2.2.2 ?_
  rw [← e]
  refine List.mem_map_of_mem ?_
  rw [List.mem_take_iff_getElem]
  exact ⟨i, by omega, rfl⟩
theorem left_sub {p : Progr} (gone : List Int) {Q : List (List Int)} (hq : Q.length = p.2.length) : ((keepG gone p.2 Q).map (·.1)).Sublist p.2 := by
  have h : ((keepG gone p.2 Q).map (·.1)).Sublist ((p.2.zip Q).map (·.1)) := List.filter_sublist.map _
  rwa [show (p.2.zip Q).map (·.1) = p.2 from List.map_fst_zip (by omega)] at h
theorem left_at {p : Progr} (pk : ProgOk p) {L : List Req} (hs : L.Sublist p.2) (j : Nat) (hj : j < L.length) : OkAt (p.1, L) j hj := by
  obtain ⟨i, hi, e⟩ := List.mem_iff_getElem.1 (hs.subset (List.getElem_mem hj))
  obtain ⟨o1, o2, o3, _⟩ := pk.at_ i hi
  rw [e] at o1 o2 o3
  refine ⟨o1, o2, o3, fun hm => ?_⟩
  have hn : (L.map (·.1)).Nodup := (prog_nodup pk).sublist (hs.map _)
  rw [List.Nodup, List.pairwise_iff_getElem] at hn
  obtain ⟨x, hx, ex⟩ := List.mem_map.1 hm
  obtain ⟨i', hi', e'⟩ := List.mem_take_iff_getElem.1 hx
  have hi2 : i' < L.length := by omega
  refine hn i' j (by rw [List.length_map]; omega) (by rw [List.length_map]; exact hj) (by omega) ?_
  rw [List.getElem_map, List.getElem_map, ← ex]
  exact congrArg (·.1) e'
theorem left_p17 (p : Progr) (h1 : p.1.length ≤ 6) (hl : p.2.length ≤ 16) (h : ∀ j (hj : j < p.2.length), OkAt p j hj) : ∀ (u k : Nat), p.2.length - k = u → k ≤ p.2.length → spyref2_ProgrammeFault.p17 p.2 p.2.length k p = some 0 := by
  intro u
  induction u with
  | zero =>
    intro k hu hk
    rw [spyref2_ProgrammeFault.p17_eq, if_neg (by rw [dt]; omega)]
  | succ u ih =>
    intro k hu hk
    have hlt : k < p.2.length := by omega
    obtain ⟨o1, o2, o3, o4⟩ := h k hlt
    have pp := prog_p23 p p.2 p.2.length k p.2[k] (p.2.take k) (by simp; omega) _ 0 rfl (by omega)
    rw [show ((0 : Nat) : Int) = 0 from rfl, List.drop_zero] at pp
    rw [spyref2_ProgrammeFault.p17_eq, if_pos (by rw [dt]; omega), if_pos (by omega), if_pos (by omega), toNat_nat, getD_nat _ _ hlt, o1, bind_some_, if_neg (by decide), if_pos (by omega), if_pos (by omega), pp, if_neg o4, in_val, bind_some_, wi (x := (p.1.length : Int) - 1) (by omega) (by omega), if_neg (by rw [not_t, df]; omega), wi_nat (by omega)]
    exact ih (k + 1) (by omega) (by omega)
open Classical in
theorem left_p4 (p : Progr) (L : List Req) (h1 : p.1.length ≤ 6) (h17 : spyref2_ProgrammeFault.p17 L L.length 0 (p.1, L) = some 0) : ∀ (u k : Nat), p.1.length - k = u → k ≤ p.1.length → spyref2_ProgrammeFault.p4 p.1 p.1.length k p = some 0 → spyref2_ProgrammeFault.p4 p.1 p.1.length k (p.1, L) = some 0 := by
  intro u
  induction u with
  | zero =>
    intro k hu hk _
    rw [spyref2_ProgrammeFault.p4_eq, if_neg (by rw [dt]; omega)]
    exact h17
  | succ u ih =>
    intro k hu hk h
    have hlt : k < p.1.length := by omega
    have a : decide ((k : Int) < (p.1.length : Int)) = true := by rw [dt]; omega
    rw [spyref2_ProgrammeFault.p4_eq] at h ⊢
    simp only [if_pos a, if_pos (show (0 : Int) ≤ k by omega), if_pos (show (k : Int) < p.1.length by omega), if_pos (show (k : Int) ≤ p.1.length by omega), toNat_nat, getD_nat _ _ hlt] at h ⊢
    obtain ⟨e, _, e2, _⟩ := proposal_same p.1[k]
    rw [e2, bind_some_] at h ⊢
    have pp := prog_p10 p p.1 p.1.length k p.1[k] (p.1.take k) (by simp; omega) _ 0 rfl (by omega)
    have pq := prog_p10 (p.1, L) p.1 p.1.length k p.1[k] (p.1.take k) (by simp; omega) _ 0 rfl (by omega)
    rw [show ((0 : Nat) : Int) = 0 from rfl, List.drop_zero, wi_nat (by omega)] at pp pq
    rw [pp] at h
    rw [pq]
    by_cases c : (e != 0) = true
    · rw [if_pos c] at h
      cases h
      exact absurd c (by decide)
    · rw [if_neg c] at h ⊢
      by_cases d : p.1[k].1 ∈ (p.1.take k).map (·.1)
      · rw [if_pos d] at h
        cases h
      · rw [if_neg d] at h ⊢
        exact ih (k + 1) (by omega) (by omega) h
theorem left_check {p : Progr} (hp : prop_Check p = some 0) (pk : ProgOk p) {L : List Req} (hs : L.Sublist p.2) : prop_Check (p.1, L) = some 0 := by
  have hL := hs.length_le
  have h1 := pk.names
  have h2 := pk.reqs
  obtain ⟨e, e1, e2, _⟩ := prog_same p
  rw [hp] at e1
  cases e1
  obtain ⟨f, f1, f2, _⟩ := prog_same (p.1, L)
  have h17 := left_p17 (p.1, L) h1 (by simp only; omega) (fun j hj => left_at pk hs j hj) _ 0 rfl (by omega)
  rw [spyref2_ProgrammeFault_eq, if_pos (by rw [df]; omega), if_neg (by rw [dt]; omega)] at e2
  have h4 := left_p4 p L h1 h17 _ 0 rfl (by omega) e2
  have : spyref2_ProgrammeFault (p.1, L) = some 0 := by
    rw [spyref2_ProgrammeFault_eq, if_pos (by rw [df]; simp only; omega), if_neg (by rw [dt]; simp only; omega)]
    exact h4
  rw [this] at f2
  cases f2
  exact f1
theorem left_fits {n : Night} {m : Mount_} {p : Progr} {q : State_} (hq : Fits n m p q) (gone : List Int) : Fits n m (p.1, (keepG gone p.2 q.2.2).map (·.1)) (q.1, q.2.1, (keepG gone p.2 q.2.2).map (·.2)) := by
  have key : ∀ j, j < ((keepG gone p.2 q.2.2).map (·.1)).length → ∃ i, i < p.2.length ∧ ((keepG gone p.2 q.2.2).map (·.1)).getD j zreq = p.2.getD i zreq ∧ ((keepG gone p.2 q.2.2).map (·.2)).getD j [] = q.2.2.getD i [] := by
    intro j hj
    rw [List.length_map] at hj
    obtain ⟨i, i1, i2, e⟩ := keepG_at gone hj
    refine ⟨i, i1, ?_, ?_⟩
    · rw [getD_nat _ _ (by rw [List.length_map]; exact hj), getD_nat _ _ i1, List.getElem_map, e]
    · rw [getD_nat _ _ (by rw [List.length_map]; exact hj), getD_nat _ _ i2, List.getElem_map, e]
  refine ⟨hq.slot, hq.az, hq.alt, by simp, fun j hj => ?_, fun j hj k hk => ?_⟩
  · obtain ⟨i, i1, e1, e2⟩ := key j hj
    simp only
    rw [e1, e2]
    exact hq.vis i i1
  · obtain ⟨i, i1, e1, e2⟩ := key j hj
    simp only at hk ⊢
    rw [e1, e2]
    rw [e2] at hk
    exact hq.row i i1 k hk
theorem check_all_left {n : Night} {m : Mount_} {p : Progr} (hn : prop_CheckNight n = some 0) (hm : slew_CheckMount m = some 0) (hp : prop_Check p = some 0) : plan_CheckAll n m p = some 0 := by
  rw [plan_CheckAll_eq, hn, bind_some_, if_neg (by decide), hm, bind_some_, if_neg (by decide), hp, bind_some_]
theorem gone_same {n : Night} {m : Mount_} {p : Progr} {cl : List (List Int)} (hn : prop_CheckNight n = some 0) (hm : slew_CheckMount m = some 0) (hp : prop_Check p = some 0) (ok : NightOk n) (mk : MtOk m) (pk : ProgOk p) {q : State_} (hq : Fits n m p q) (gone : List Int) (hg : gone.length ≤ 1000) (done rest : List (Int × Int × Int × Int)) :
    ∃ l, replan_session_plan (n, m, p, q, done, rest) gone = some (0, n, m, p, q, done, l) ∧ spyref2_Table_Without (n, m, p, cl) q gone = some l ∧ (l.length : Int) ≤ 64 := by
  have hs := left_sub gone hq.len
  have hp' := left_check hp pk hs
  have hc' := check_all_left hn hm hp'
  obtain ⟨e, c1, _, c3⟩ := all_same n m (p.1, (keepG gone p.2 q.2.2).map (·.1))
  rw [hc'] at c1
  cases c1
  have pk' := (c3 rfl).2
  obtain ⟨cl', aim', dk', d1, d2⟩ := desk_new hc' hn ok pk'
  obtain ⟨l, l1, l2, l3⟩ := from_fit hn hm ok mk pk' dk' hp' (left_fits hq gone)
  refine ⟨l, ?_, ?_, l3⟩
  · have h := plan_gone pk gone hg n m q hq.len done rest _ 0 rfl (by omega)
    rw [replan_session_plan_eq]
    refine Eq.trans h ?_
    rw [plan_From_eq, d1, bind_some_, if_neg (show ¬ ((0 : Int) != 0) = true by decide), l1, bind_some_, bind_some_]
  · have h := without_p4 (n := n) (m := m) (cl := cl) pk gone hg q hq.len _ 0 rfl (by omega)
    rw [spyref2_Table_Without_eq]
    refine Eq.trans h ?_
    rw [d2, bind_some_, l2, bind_some_]

end Go.Proofs.YtdcbapdakaaeoaaGreat.Pure
