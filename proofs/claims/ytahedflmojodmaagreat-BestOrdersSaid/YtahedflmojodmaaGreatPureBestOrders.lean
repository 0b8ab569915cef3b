/- BestOrders: the pure statement, proved. -/
import Derived.Test.YtahedflmojodmaaGreatEC0
import Derived.Test.YtahedflmojodmaaGreatEC1
import Derived.Test.YtahedflmojodmaaGreatEC2
import Derived.Test.YtahedflmojodmaaGreatEC3
import Derived.Test.YtahedflmojodmaaGreatEC4
import Derived.Test.YtahedflmojodmaaGreatEC5
import Derived.Test.YtahedflmojodmaaGreatEC6
import Derived.Test.YtahedflmojodmaaGreatEC7
import Derived.Test.YtahedflmojodmaaGreatPl
import Derived.Test.YtahedflmojodmaaGreatLemA
import Derived.Test.YtahedflmojodmaaGreatLemB
import Derived.Test.YtahedflmojodmaaGreatLemC
import Derived.Test.YtahedflmojodmaaGreatLemG
namespace Go.Proofs.YtahedflmojodmaaGreat.Pure
set_option linter.unusedVariables false
set_option linter.unusedSimpArgs false
open Go Go.RowKit Go.Proofs.YtahedflmojodmaaGreat.Pv Go.Proofs.YtahedflmojodmaaGreat.Pl Go.Proofs.YtahedflmojodmaaGreat.EC

/-! Where a request stands, by both. -/
theorem idxf_run (l : List Req) (id : Int) (hl : l.length ≤ 16) : ∀ (u k : Nat), l.length - k = u → k ≤ l.length → slices_IndexFunc_api_Request.p2 l id l.length k = spyref2_IndexOf.p2 id l l.length k := by
  intro u
  induction u with
  | zero =>
    intro k h hk
    rw [spyref2_IndexOf.p2_eq, slices_IndexFunc_api_Request.p2_eq, if_neg (by rw [dt]; omega), if_neg (by rw [dt]; omega)]
  | succ u ih =>
    intro k h hk
    rw [spyref2_IndexOf.p2_eq, slices_IndexFunc_api_Request.p2_eq, best_Order_c1_eq, bind_some_, wi_nat (by omega), ih (k + 1) (by omega) (by omega)]
theorem idxf_same (p : Progr) (id : Int) (hl : p.2.length ≤ 16) : slices_IndexFunc_api_Request p.2 id = spyref2_IndexOf p id := by
  rw [slices_IndexFunc_api_Request_eq, spyref2_IndexOf_eq]
  exact idxf_run p.2 id hl _ 0 rfl (by omega)
/-! What best asks first. -/
theorem bests_ok : spylaw2_bests = some true := callL_some.2 ⟨400, by kernel_rfl⟩
def visSum (l : List Req) : Int := (l.map (·.2.2.2.2.1)).sum
theorem vis_drop (l : List Req) {k : Nat} (h : k < l.length) : visSum (l.drop k) = (l.getD k zreq).2.2.2.2.1 + visSum (l.drop (k + 1)) := by
  rw [List.drop_eq_getElem_cons h, getD_nat _ _ h]
  rfl
theorem vis_low {p : Progr} (pk : ProgOk p) : ∀ (u k : Nat), p.2.length - k = u → k ≤ p.2.length → 0 ≤ visSum (p.2.drop k) ∧ visSum (p.2.drop k) ≤ 4 * (u : Int) := by
  intro u
  induction u with
  | zero =>
    intro k h hk
    rw [List.drop_eq_nil_of_le (by omega)]
    exact ⟨by decide, by decide⟩
  | succ u ih =>
    intro k h hk
    have := req_len pk (j := k) (by omega)
    have hz : (0, 0, (0, 0, 0), 0, 0, 0, 0, 0, 0, 0, 0) = zreq := rfl
    rw [hz] at this
    have := ih (k + 1) (by omega) (by omega)
    rw [vis_drop _ (by omega)]
    omega
abbrev zdesk : Desk_ := (((0, 0), (0, 0, 0, 0), 0, 0, 0, (0, 0, 0), (0, 0, 0), 0, []), ((0, 0, 0, 0), (0, 0, 0, 0), 0, 0), ([], []), [], [])
theorem open_p6 {p : Progr} (pk : ProgOk p) (z d : Desk_) : ∀ (u k : Nat) (acc : Int), p.2.length - k = u → k ≤ p.2.length → 0 ≤ acc → acc ≤ 4 * (k : Int) → best_open.p6 acc p.2 p.2.length k z d = (if decide (acc + visSum (p.2.drop k) > 5) = true then some (zdesk, 2) else some (d, 0)) ∧ spylaw2_bestFault.p6 acc p.2 p.2.length k = (if decide (acc + visSum (p.2.drop k) > 5) = true then some 2 else some 0) := by
  have hr := pk.reqs
  intro u
  induction u with
  | zero =>
    intro k acc h hk h0 h1
    rw [List.drop_eq_nil_of_le (by omega), show visSum [] = 0 from rfl, Int.add_zero]
    refine ⟨?_, ?_⟩
    · rw [best_open.p6_eq, if_neg (show ¬ decide ((k : Int) < (p.2.length : Int)) = true by rw [dt]; omega)]
    · rw [spylaw2_bestFault.p6_eq, if_neg (show ¬ decide ((k : Int) < (p.2.length : Int)) = true by rw [dt]; omega)]
  | succ u ih =>
    intro k acc h hk h0 h1
    have q := req_len pk (j := k) (by omega)
    have hz : (0, 0, (0, 0, 0), 0, 0, 0, 0, 0, 0, 0, 0) = zreq := rfl
    rw [hz] at q
    have next := ih (k + 1) (acc + (p.2.getD k zreq).2.2.2.2.1) (by omega) (by omega) (by omega) (by omega)
    rw [vis_drop _ (by omega), ← Int.add_assoc]
    refine ⟨?_, ?_⟩
    · rw [best_open.p6_eq, hz, toNat_nat, if_pos (show decide ((k : Int) < (p.2.length : Int)) = true by rw [dt]; omega), if_pos (show (0 : Int) ≤ (k : Int) by omega), if_pos (show (k : Int) < (p.2.length : Int) by omega), wi (x := acc + (p.2.getD k zreq).2.2.2.2.1) (by omega) (by omega), wi_nat (by omega)]
      exact next.1
    · rw [spylaw2_bestFault.p6_eq, hz, toNat_nat, if_pos (show decide ((k : Int) < (p.2.length : Int)) = true by rw [dt]; omega), if_pos (show (0 : Int) ≤ (k : Int) by omega), if_pos (show (k : Int) < (p.2.length : Int) by omega), wi (x := acc + (p.2.getD k zreq).2.2.2.2.1) (by omega) (by omega), wi_nat (by omega)]
      exact next.2
theorem open_bad {n : Night} {m : Mount_} {p : Progr} {e : Int} (h : plan_CheckAll n m p = some e) (he : e ≠ 0) : best_open n m p = some (zdesk, e) := by
  rw [best_open_eq, new_zero h he, bind_some_, if_pos (by rw [ne_t]; exact he)]
theorem open_ok {n : Night} {m : Mount_} {p : Progr} {d : Desk_} (pk : ProgOk p) (h : plan_NewDesk n m p = some (d, 0)) : best_open n m p = if decide (visSum p.2 > 5) = true then some (zdesk, 2) else some (d, 0) := by
  have := (open_p6 pk zdesk d _ 0 0 rfl (by omega) (by omega) (by omega)).1
  rw [List.drop_zero, Int.zero_add] at this
  rw [best_open_eq, h, bind_some_, if_neg (show ¬ ((0 : Int) != 0) = true by decide)]
  exact this
theorem fault_ok_ {n : Night} {m : Mount_} {p : Progr} (pk : ProgOk p) (h : spyref2_AllFault n m p = some 0) : spylaw2_bestFault n m p = if decide (visSum p.2 > 5) = true then some 2 else some 0 := by
  have := (open_p6 pk zdesk zdesk _ 0 0 rfl (by omega) (by omega) (by omega)).2
  rw [List.drop_zero, Int.zero_add] at this
  rw [spylaw2_bestFault_eq, h, bind_some_, if_neg (show ¬ ((0 : Int) != 0) = true by decide)]
  exact this
theorem start_val {m : Mount_} {p : Progr} (pk : ProgOk p) : plan_Start m p = some (0, m.2.2, List.replicate p.2.length []) := by
  have hr := pk.reqs
  rw [plan_Start_eq, if_pos rfl, if_pos (by omega), if_pos (by omega)]
theorem first_val {n : Night} {m : Mount_} {p : Progr} {cl : List (List Int)} (pk : ProgOk p) : spyref2_Table_First (n, m, p, cl) = some (0, m.2.2, List.replicate p.2.length []) := by
  have hr := pk.reqs
  rw [spyref2_Table_First_eq, if_pos rfl, if_pos (by simp only; omega), if_pos (by simp only; omega)]
theorem eqv_p4 (l : List (Int × Int × Int × Int)) (hl : l.length ≤ 64) : ∀ (u k : Nat), l.length - k = u → k ≤ l.length → slices_Equal_api_Visit.p4 l l (l.length : Int) k = some true := by
  intro u
  induction u with
  | zero =>
    intro k hu hk
    rw [slices_Equal_api_Visit.p4_eq, if_neg (by rw [dt]; omega)]
  | succ u ih =>
    intro k hu hk
    rw [slices_Equal_api_Visit.p4_eq, if_pos (by rw [dt]; omega), if_pos (by omega), if_pos (by omega), if_pos (by omega), if_pos (by omega), if_neg (by simp), wi_nat (by omega)]
    exact ih (k + 1) (by omega) (by omega)
theorem eqv_same (l : List (Int × Int × Int × Int)) (hl : l.length ≤ 64) : slices_Equal_api_Visit l l = some true := by
  rw [slices_Equal_api_Visit_eq, if_neg (by simp)]
  exact eqv_p4 l hl _ 0 rfl (by omega)
theorem order_run {n : Night} {m : Mount_} {p : Progr} {cl : List (List Int)} {aim : List (List (Int × Int))} (hn : prop_CheckNight n = some 0) (hm : slew_CheckMount m = some 0) (ok : NightOk n) (mk : MtOk m) (pk : ProgOk p) (dk : DeskOk n p cl aim) (ids : List Int) (hi : ids.length < 9223372036854775807) : ∀ (u k : Nat) (s : State_) (out : List (Int × Int × Int × Int)), ids.length - k = u → k ≤ ids.length → Fits n m p s → (out.length : Int) ≤ s.1 →
    ∃ l e, best_Order.p7 ids ids.length k p (n, m, p, cl, aim) s out = some (l, e) ∧ spylaw2_BestOrders.p11 l e ids ids.length k p (n, m, p, cl) s out = some true := by
  have h64 := ok.slots
  have hr := pk.reqs
  intro u
  induction u with
  | zero =>
    intro k s out hu hk hs ho
    have hslot := hs.slot
    rw [best_Order.p7_eq, if_neg (by rw [dt]; omega)]
    refine ⟨_, _, rfl, ?_⟩
    rw [spylaw2_BestOrders.p11_eq, if_neg (by rw [dt]; omega), if_pos (by decide), eqv_same out (by omega), bind_some_]
  | succ u ih =>
    intro k s out hu hk hs ho
    have hslot := hs.slot
    rw [best_Order.p7_eq, if_pos (by rw [dt]; omega), if_pos (by omega), if_pos (by omega), idxf_same p _ hr]
    rcases index_of p (ids.getD (k : Int).toNat 0) hr with ⟨h1, h2⟩ | ⟨j, hj, h1, h2⟩
    · rw [h1, bind_some_, if_pos (by decide)]
      refine ⟨_, _, rfl, ?_⟩
      rw [spylaw2_BestOrders.p11_eq, if_pos (by rw [dt]; omega), if_pos (by omega), if_pos (by omega), h1, bind_some_, if_pos (by decide), if_pos (by decide)]
      rfl
    · obtain ⟨v, q, e, e1, e2, e3, e4⟩ := earliest_fit hn hm ok mk pk dk hs j hj
      rw [h1, bind_some_, if_neg (by rw [dt]; omega), e1, bind_some_]
      by_cases he : e = 0
      · subst he
        obtain ⟨f1, f2, _⟩ := e4 rfl
        have rl := req_len pk hj
        have hz : (0, 0, (0, 0, 0), 0, 0, 0, 0, 0, 0, 0, 0) = zreq := rfl
        rw [hz] at rl
        have g1 := f2.lo
        have lim : (out.length + 1) * 32 ≤ 140737488355328 := by omega
        rw [if_neg (show ¬ ((0 : Int) != 0) = true by decide), if_pos lim, wi_nat (by omega)]
        obtain ⟨l, e, l1, l2⟩ := ih (k + 1) q (out ++ [v]) (by omega) (by omega) f1 (by rw [List.length_append, List.length_singleton]; omega)
        refine ⟨l, e, l1, ?_⟩
        rw [spylaw2_BestOrders.p11_eq, if_pos (by rw [dt]; omega), if_pos (by omega), if_pos (by omega), h1, bind_some_, if_neg (by rw [dt]; omega), e2, bind_some_, if_neg (show ¬ ((0 : Int) != 0) = true by decide), if_pos lim, wi_nat (by omega)]
        exact l2
      · rw [if_pos (by rw [ne_t]; exact he)]
        refine ⟨_, _, rfl, ?_⟩
        rw [spylaw2_BestOrders.p11_eq, if_pos (by rw [dt]; omega), if_pos (by omega), if_pos (by omega), h1, bind_some_, if_neg (by rw [dt]; omega), e2, bind_some_, if_pos (by rw [ne_t]; exact he), if_pos (by decide)]
        rfl
theorem BestOrders : ∀ (x0 : (Int × Int) × (Int × Int × Int × Int) × Int × Int × Int × (Int × Int × Int) × (Int × Int × Int) × Int × List Int) (x1 : (Int × Int × Int × Int) × (Int × Int × Int × Int) × Int × Int) (x2 : (List (ByteArray × Int)) × List (Int × Int × (Int × Int × Int) × Int × Int × Int × Int × Int × Int × Int × Int)) (x3 : List Int), goodT Tryz.prog (.prod (.prod (.int .i64) (.int .i64)) (.prod (.prod (.int .i64) (.prod (.int .i64) (.prod (.int .i64) (.int .i64)))) (.prod (.int .i64) (.prod (.int .i64) (.prod (.int .i64) (.prod (.prod (.int .i64) (.prod (.int .i64) (.int .i64))) (.prod (.prod (.int .i64) (.prod (.int .i64) (.int .i64))) (.prod (.int .i64) (.list false 3 (.int .i64)))))))))) x0 → goodT Tryz.prog (.prod (.prod (.int .i64) (.prod (.int .i64) (.prod (.int .i64) (.int .i64)))) (.prod (.prod (.int .i64) (.prod (.int .i64) (.prod (.int .i64) (.int .i64)))) (.prod (.int .i64) (.int .i64)))) x1 → goodT Tryz.prog (.prod (.list false 121 (.prod .str (.int .i64))) (.list false 85 (.prod (.int .i64) (.prod (.int .i64) (.prod (.prod (.int .i64) (.prod (.int .i64) (.int .i64))) (.prod (.int .i64) (.prod (.int .i64) (.prod (.int .i64) (.prod (.int .i64) (.prod (.int .i64) (.prod (.int .i64) (.prod (.int .i64) (.int .i64))))))))))))) x2 → goodT Tryz.prog (.list false 3 (.int .i64)) x3 → spylaw2_BestOrders x0 x1 x2 x3 = some true := by
  intro n m p ids hn hm hp hi
  obtain ⟨e, c1, c2, c3⟩ := all_same n m p
  rw [spylaw2_BestOrders_eq, bests_ok, bind_some_, if_neg (by decide), best_Order_eq]
  by_cases he : e = 0
  · subst he
    obtain ⟨nok, pok⟩ := c3 rfl
    obtain ⟨hnight, hmount, mok⟩ := all_parts c1
    obtain ⟨cl, aim, dk, d1, d2⟩ := desk_new c1 hnight nok pok
    rw [open_ok pok d1, fault_ok_ pok c2]
    by_cases c : decide (visSum p.2 > 5) = true
    · rw [if_pos c, if_pos c, bind_some_, if_pos (by decide), bind_some_, bind_some_, if_pos (by decide), if_pos (by decide)]
      rfl
    · rw [if_neg c, if_neg c, bind_some_, if_neg (show ¬ ((0 : Int) != 0) = true by decide), start_val pok, bind_some_]
      have hl : ids.length < 9223372036854775807 := by
        have h := hi.2.1
        have hb : Tryz.prog.bytesOf 3 = 8 := by kernel_rfl
        rw [hb] at h
        omega
      obtain ⟨l, e, l1, l2⟩ := order_run hnight hmount nok mok pok dk ids hl _ 0 (0, m.2.2, List.replicate p.2.length []) [] rfl (by omega) (first_fits nok pok ⟨mok.p, mok.q⟩) (by simp)
      rw [show ((0 : Nat) : Int) = 0 from rfl] at l1 l2
      rw [l1, bind_some_, bind_some_, if_neg (show ¬ ((0 : Int) != 0) = true by decide), d2, bind_some_, first_val pok, bind_some_]
      exact l2
  · have h : (e != 0) = true := by rw [ne_t]; exact he
    rw [open_bad c1 he, bind_some_, if_pos h, bind_some_, spylaw2_bestFault_eq, c2, bind_some_, if_pos h, bind_some_, if_pos h, if_pos (by simp)]
    rfl

end Go.Proofs.YtahedflmojodmaaGreat.Pure
