/- BestFinds: the pure statement, proved. -/
import Derived.Test.YtahedflmojodmaaGreatEF0
import Derived.Test.YtahedflmojodmaaGreatEF1
import Derived.Test.YtahedflmojodmaaGreatEF2
import Derived.Test.YtahedflmojodmaaGreatEF3
import Derived.Test.YtahedflmojodmaaGreatEF4
import Derived.Test.YtahedflmojodmaaGreatEF5
import Derived.Test.YtahedflmojodmaaGreatEF6
import Derived.Test.YtahedflmojodmaaGreatPl
import Derived.Test.YtahedflmojodmaaGreatLemFA
import Derived.Test.YtahedflmojodmaaGreatLemFB
import Derived.Test.YtahedflmojodmaaGreatLemFC
import Derived.Test.YtahedflmojodmaaGreatLemFG
namespace Go.Proofs.YtahedflmojodmaaGreat.Pure
set_option linter.unusedVariables false
set_option linter.unusedSimpArgs false
open Go Go.RowKit Go.Proofs.YtahedflmojodmaaGreat.Pv Go.Proofs.YtahedflmojodmaaGreat.Pl Go.Proofs.YtahedflmojodmaaGreat.EF

/-! The weights of valid requests. -/
theorem p11_weight {r : Req} (h : spyref2_RequestFault.p11 r = some 0) : 1 ≤ r.2.2.2.2.2.2.2.2.2.2 ∧ r.2.2.2.2.2.2.2.2.2.2 ≤ 100 := by
  rw [spyref2_RequestFault.p11_eq, in_val, in_val] at h
  simp only [bind_some_] at h
  obtain ⟨_, h⟩ := ite_0 (by omega) h
  obtain ⟨_, h⟩ := ite_0 (by omega) h
  obtain ⟨_, h⟩ := ite_0 (by omega) h
  obtain ⟨_, h⟩ := ite_1 (by omega) h
  obtain ⟨_, h⟩ := ite_0 (by omega) h
  obtain ⟨h1, _⟩ := ite_1 (by omega) h
  rw [not_t, df] at h1
  exact Classical.byContradiction h1
theorem request_weight {r : Req} (h : spyref2_RequestFault r = some 0) : 1 ≤ r.2.2.2.2.2.2.2.2.2.2 ∧ r.2.2.2.2.2.2.2.2.2.2 ≤ 100 := by
  obtain ⟨e, s1, d1⟩ := dir_check r.2.2.1
  rw [spyref2_RequestFault_eq, in_val, in_val, in_val, d1] at h
  simp only [bind_some_] at h
  obtain ⟨_, h⟩ := ite_1 (by omega) h
  obtain ⟨_, h⟩ := ite_1 (by omega) h
  obtain ⟨_, h⟩ := ite_0 (by omega) h
  obtain ⟨_, h⟩ := ite_1 (by omega) h
  have key : spyref2_RequestFault.p9 r = some 0 := by
    by_cases c : (r.2.2.2.2.1 == 1) = true
    · rw [if_pos c] at h
      obtain ⟨_, h⟩ := ite_0 (by omega) h
      exact (ite_1 (by omega) h).2
    · rw [if_neg c] at h
      exact h
  rw [spyref2_RequestFault.p9_eq, in_val, in_val] at key
  simp only [bind_some_] at key
  by_cases c : decide (r.2.2.2.2.1 > 1) = true
  · rw [if_pos c] at key
    obtain ⟨_, key⟩ := ite_0 (by omega) key
    exact p11_weight (ite_1 (by omega) key).2
  · rw [if_neg c] at key
    exact p11_weight key
/-! What best asks first. -/
theorem bests_ok : spylaw2_bests = some true := callL_some.2 ⟨400, by kernel_rfl⟩
def visSum (l : List Req) : Int := (l.map (·.2.2.2.2.1)).sum
theorem vis_drop (l : List Req) {k : Nat} (h : k < l.length) : visSum (l.drop k) = (l.getD k zreq).2.2.2.2.1 + visSum (l.drop (k + 1)) := by
  rw [List.drop_eq_getElem_cons h, getD_nat _ _ h]
  rfl
theorem vis_low {p : Progr} (pk : ProgOk p) : ∀ (u k : Nat), p.2.length - k = u → k ≤ p.2.length → 0 ≤ visSum (p.2.drop k) ∧ visSum (p.2.drop k) ≤ 4 * (u : Int) := by
  intro u
  induction u with
  | zero =>
    intro k h hk
    rw [List.drop_eq_nil_of_le (by omega)]
    exact ⟨by decide, by decide⟩
  | succ u ih =>
    intro k h hk
    have := req_len pk (j := k) (by omega)
    have hz : (0, 0, (0, 0, 0), 0, 0, 0, 0, 0, 0, 0, 0) = zreq := rfl
    rw [hz] at this
    have := ih (k + 1) (by omega) (by omega)
    rw [vis_drop _ (by omega)]
    omega
abbrev zdesk : Desk_ := (((0, 0), (0, 0, 0, 0), 0, 0, 0, (0, 0, 0), (0, 0, 0), 0, []), ((0, 0, 0, 0), (0, 0, 0, 0), 0, 0), ([], []), [], [])
theorem open_p6 {p : Progr} (pk : ProgOk p) (z d : Desk_) : ∀ (u k : Nat) (acc : Int), p.2.length - k = u → k ≤ p.2.length → 0 ≤ acc → acc ≤ 4 * (k : Int) → best_open.p6 acc p.2 p.2.length k z d = (if decide (acc + visSum (p.2.drop k) > 5) = true then some (zdesk, 2) else some (d, 0)) ∧ spylaw2_bestFault.p6 acc p.2 p.2.length k = (if decide (acc + visSum (p.2.drop k) > 5) = true then some 2 else some 0) := by
  have hr := pk.reqs
  intro u
  induction u with
  | zero =>
    intro k acc h hk h0 h1
    rw [List.drop_eq_nil_of_le (by omega), show visSum [] = 0 from rfl, Int.add_zero]
    refine ⟨?_, ?_⟩
    · rw [best_open.p6_eq, if_neg (show ¬ decide ((k : Int) < (p.2.length : Int)) = true by rw [dt]; omega)]
    · rw [spylaw2_bestFault.p6_eq, if_neg (show ¬ decide ((k : Int) < (p.2.length : Int)) = true by rw [dt]; omega)]
  | succ u ih =>
    intro k acc h hk h0 h1
    have q := req_len pk (j := k) (by omega)
    have hz : (0, 0, (0, 0, 0), 0, 0, 0, 0, 0, 0, 0, 0) = zreq := rfl
    rw [hz] at q
    have next := ih (k + 1) (acc + (p.2.getD k zreq).2.2.2.2.1) (by omega) (by omega) (by omega) (by omega)
    rw [vis_drop _ (by omega), ← Int.add_assoc]
    refine ⟨?_, ?_⟩
    · rw [best_open.p6_eq, hz, toNat_nat, if_pos (show decide ((k : Int) < (p.2.length : Int)) = true by rw [dt]; omega), if_pos (show (0 : Int) ≤ (k : Int) by omega), if_pos (show (k : Int) < (p.2.length : Int) by omega), wi (x := acc + (p.2.getD k zreq).2.2.2.2.1) (by omega) (by omega), wi_nat (by omega)]
      exact next.1
    · rw [spylaw2_bestFault.p6_eq, hz, toNat_nat, if_pos (show decide ((k : Int) < (p.2.length : Int)) = true by rw [dt]; omega), if_pos (show (0 : Int) ≤ (k : Int) by omega), if_pos (show (k : Int) < (p.2.length : Int) by omega), wi (x := acc + (p.2.getD k zreq).2.2.2.2.1) (by omega) (by omega), wi_nat (by omega)]
      exact next.2
theorem open_bad {n : Night} {m : Mount_} {p : Progr} {e : Int} (h : plan_CheckAll n m p = some e) (he : e ≠ 0) : best_open n m p = some (zdesk, e) := by
  rw [best_open_eq, new_zero h he, bind_some_, if_pos (by rw [ne_t]; exact he)]
theorem open_ok {n : Night} {m : Mount_} {p : Progr} {d : Desk_} (pk : ProgOk p) (h : plan_NewDesk n m p = some (d, 0)) : best_open n m p = if decide (visSum p.2 > 5) = true then some (zdesk, 2) else some (d, 0) := by
  have := (open_p6 pk zdesk d _ 0 0 rfl (by omega) (by omega) (by omega)).1
  rw [List.drop_zero, Int.zero_add] at this
  rw [best_open_eq, h, bind_some_, if_neg (show ¬ ((0 : Int) != 0) = true by decide)]
  exact this
theorem fault_ok_ {n : Night} {m : Mount_} {p : Progr} (pk : ProgOk p) (h : spyref2_AllFault n m p = some 0) : spylaw2_bestFault n m p = if decide (visSum p.2 > 5) = true then some 2 else some 0 := by
  have := (open_p6 pk zdesk zdesk _ 0 0 rfl (by omega) (by omega) (by omega)).2
  rw [List.drop_zero, Int.zero_add] at this
  rw [spylaw2_bestFault_eq, h, bind_some_, if_neg (show ¬ ((0 : Int) != 0) = true by decide)]
  exact this
theorem start_val {m : Mount_} {p : Progr} (pk : ProgOk p) : plan_Start m p = some (0, m.2.2, List.replicate p.2.length []) := by
  have hr := pk.reqs
  rw [plan_Start_eq, if_pos rfl, if_pos (by omega), if_pos (by omega)]
theorem first_val {n : Night} {m : Mount_} {p : Progr} {cl : List (List Int)} (pk : ProgOk p) : spyref2_Table_First (n, m, p, cl) = some (0, m.2.2, List.replicate p.2.length []) := by
  have hr := pk.reqs
  rw [spyref2_Table_First_eq, if_pos rfl, if_pos (by simp only; omega), if_pos (by simp only; omega)]
theorem eqv_p4 (l : List (Int × Int × Int × Int)) (hl : l.length ≤ 64) : ∀ (u k : Nat), l.length - k = u → k ≤ l.length → slices_Equal_api_Visit.p4 l l (l.length : Int) k = some true := by
  intro u
  induction u with
  | zero =>
    intro k hu hk
    rw [slices_Equal_api_Visit.p4_eq, if_neg (by rw [dt]; omega)]
  | succ u ih =>
    intro k hu hk
    rw [slices_Equal_api_Visit.p4_eq, if_pos (by rw [dt]; omega), if_pos (by omega), if_pos (by omega), if_pos (by omega), if_pos (by omega), if_neg (by simp), wi_nat (by omega)]
    exact ih (k + 1) (by omega) (by omega)
theorem eqv_same (l : List (Int × Int × Int × Int)) (hl : l.length ≤ 64) : slices_Equal_api_Visit l l = some true := by
  rw [slices_Equal_api_Visit_eq, if_neg (by simp)]
  exact eqv_p4 l hl _ 0 rfl (by omega)
/-! Sums over requests. -/
abbrev Vis_ : Type := Int × Int × Int × Int
def lsum (f : Nat → Int) : Nat → Nat → Int
  | 0, _ => 0
  | u + 1, k => f k + lsum f u (k + 1)
theorem lsum_bound (f : Nat → Int) (c : Int) : ∀ (u k : Nat), (∀ j, k ≤ j → j < k + u → 0 ≤ f j ∧ f j ≤ c) → 0 ≤ lsum f u k ∧ lsum f u k ≤ c * (u : Int)
  | 0, k, _ => by simp [lsum]
  | u + 1, k, h => by
    have a := h k (by omega) (by omega)
    have b := lsum_bound f c u (k + 1) (fun j h1 h2 => h j (by omega) (by omega))
    unfold lsum
    rw [show c * ((u + 1 : Nat) : Int) = c + c * (u : Int) by rw [Int.natCast_add, Int.mul_add]; simp; omega]
    omega
theorem lsum_same (f g : Nat → Int) : ∀ (u k : Nat), (∀ j, k ≤ j → j < k + u → f j = g j) → lsum f u k = lsum g u k
  | 0, k, _ => rfl
  | u + 1, k, h => by
    unfold lsum
    rw [h k (by omega) (by omega), lsum_same f g u (k + 1) (fun j h1 h2 => h j (by omega) (by omega))]
theorem lsum_turn (f g : Nat → Int) (i : Nat) (c : Int) (hi : f i = g i + c) : ∀ (u k : Nat), k ≤ i → i < k + u → (∀ j, j ≠ i → k ≤ j → j < k + u → f j = g j) → lsum f u k = lsum g u k + c
  | 0, k, h1, h2, _ => by omega
  | u + 1, k, h1, h2, h => by
    unfold lsum
    by_cases e : k = i
    · subst e
      rw [hi, lsum_same f g u (k + 1) (fun j h1 h2 => h j (by omega) (by omega) (by omega))]
      omega
    · rw [h k e (by omega) (by omega), lsum_turn f g i c hi u (k + 1) (by omega) (by omega) (fun j h0 h1 h2 => h j h0 (by omega) (by omega))]
      omega
def wt (p : Progr) (j : Nat) : Int := (p.2.getD j zreq).2.2.2.2.2.2.2.2.2.2
def toGo (p : Progr) (s : State_) (j : Nat) : Int := (p.2.getD j zreq).2.2.2.2.1 - ((s.2.2.getD j []).length : Int)
def leftF (p : Progr) (s : State_) (j : Nat) : Int := wt p j * toGo p s j
theorem wt_bound {p : Progr} (pk : ProgOk p) {j : Nat} (h : j < p.2.length) : 1 ≤ wt p j ∧ wt p j ≤ 100 := request_weight (req_fault pk h)
theorem toGo_bound {n : Night} {m : Mount_} {p : Progr} {s : State_} (pk : ProgOk p) (hs : Fits n m p s) {j : Nat} (h : j < p.2.length) : 0 ≤ toGo p s j ∧ toGo p s j ≤ 4 := by
  have a := hs.vis j h
  have b := req_len pk h
  unfold toGo
  simp only [zreq] at a ⊢
  omega
theorem leftF_bound {n : Night} {m : Mount_} {p : Progr} {s : State_} (pk : ProgOk p) (hs : Fits n m p s) {j : Nat} (h : j < p.2.length) : 0 ≤ leftF p s j ∧ leftF p s j ≤ 400 := by
  have a := toGo_bound pk hs h
  have b := wt_bound pk h
  unfold leftF
  have c : 0 ≤ wt p j * toGo p s j := Int.mul_nonneg (by omega) a.1
  have d : wt p j * toGo p s j ≤ 100 * 4 := Int.mul_le_mul b.2 a.2 a.1 (by omega)
  omega
def left_ (p : Progr) (s : State_) : Int := lsum (leftF p s) p.2.length 0
def rest_ (p : Progr) (s : State_) : Int := lsum (toGo p s) p.2.length 0
theorem left_bound {n : Night} {m : Mount_} {p : Progr} {s : State_} (pk : ProgOk p) (hs : Fits n m p s) : 0 ≤ left_ p s ∧ left_ p s ≤ 6400 := by
  have h := lsum_bound (leftF p s) 400 p.2.length 0 (fun j _ hj => leftF_bound pk hs (by omega))
  have := pk.reqs
  unfold left_
  omega
theorem rest_bound {n : Night} {m : Mount_} {p : Progr} {s : State_} (pk : ProgOk p) (hs : Fits n m p s) : 0 ≤ rest_ p s := (lsum_bound (toGo p s) 4 p.2.length 0 (fun j _ hj => toGo_bound pk hs (by omega))).1
theorem toGo_grown {n : Night} {m : Mount_} {p : Progr} {s q : State_} {i : Nat} (hs : Fits n m p s) (g : Grown n m p s q i) : toGo p s i = toGo p q i + 1 ∧ ∀ j, j ≠ i → toGo p s j = toGo p q j := by
  have hl := hs.len
  have hi := g.hi
  unfold toGo
  rw [g.starts]
  refine ⟨?_, fun j hj => ?_⟩
  · rw [getD_set_same _ (by omega), List.length_append, List.length_singleton]
    omega
  · rw [getD_set_ne _ (fun e => hj e.symm)]
theorem left_grown {n : Night} {m : Mount_} {p : Progr} {s q : State_} {i : Nat} (hs : Fits n m p s) (g : Grown n m p s q i) : left_ p s = left_ p q + wt p i := by
  obtain ⟨a, b⟩ := toGo_grown hs g
  refine lsum_turn _ _ i _ ?_ _ 0 (by omega) (by have := g.hi; omega) (fun j hj _ _ => ?_)
  · unfold leftF
    rw [a, Int.mul_add, Int.mul_one]
  · unfold leftF
    rw [b j hj]
theorem rest_grown {n : Night} {m : Mount_} {p : Progr} {s q : State_} {i : Nat} (hs : Fits n m p s) (g : Grown n m p s q i) : rest_ p s = rest_ p q + 1 := by
  obtain ⟨a, b⟩ := toGo_grown hs g
  exact lsum_turn _ _ i _ a _ 0 (by omega) (by have := g.hi; omega) (fun j hj _ _ => b j hj)
theorem left_run {n : Night} {m : Mount_} {p : Progr} {s : State_} (pk : ProgOk p) (hs : Fits n m p s) : ∀ (u k : Nat) (acc : Int), p.2.length - k = u → k ≤ p.2.length → 0 ≤ acc → acc ≤ 400 * (k : Int) → best_left.p3 acc p.2 p.2.length k s = some (acc + lsum (leftF p s) u k) := by
  have hr := pk.reqs
  have hl := hs.len
  intro u
  induction u with
  | zero =>
    intro k acc hu hk h0 h1
    rw [best_left.p3_eq, if_neg (by rw [dt]; omega)]
    simp [lsum]
  | succ u ih =>
    intro k acc hu hk h0 h1
    have a := toGo_bound pk hs (j := k) (by omega)
    have b := leftF_bound pk hs (j := k) (by omega)
    have hz : (0, 0, (0, 0, 0), 0, 0, 0, 0, 0, 0, 0, 0) = zreq := rfl
    have e1 : (p.2.getD k zreq).2.2.2.2.1 - ((s.2.2.getD k []).length : Int) = toGo p s k := rfl
    have e2 : (p.2.getD k zreq).2.2.2.2.2.2.2.2.2.2 * toGo p s k = leftF p s k := rfl
    rw [best_left.p3_eq, hz, toNat_nat, if_pos (by rw [dt]; omega), if_pos (by omega), if_pos (by omega), if_pos (by omega), if_pos (by omega), e1, wi (x := toGo p s k) (by omega) (by omega), e2, wi (x := leftF p s k) (by omega) (by omega), wi (by omega) (by omega), wi_nat (by omega), ih (k + 1) _ (by omega) (by omega) (by omega) (by omega), show lsum (leftF p s) (u + 1) k = leftF p s k + lsum (leftF p s) u (k + 1) from rfl, Int.add_assoc]
theorem left_val {n : Night} {m : Mount_} {p : Progr} {s : State_} (pk : ProgOk p) (hs : Fits n m p s) : best_left p s = some (left_ p s) := by
  have h := left_run pk hs _ 0 0 rfl (by omega) (by omega) (by omega)
  rw [best_left_eq]
  rw [Nat.sub_zero, Int.zero_add] at h
  exact h
/-! All lists, and the best of them. -/
def LS (n : Nat) : Nat → List (List Int)
  | 0 => []
  | k + 1 => [] :: (List.range' 0 n).flatMap fun (i : Nat) => (LS n k).map ((i : Int) :: ·)
abbrev Tab_ : Type := Night × Mount_ × Progr × List (List Int)
noncomputable def pr (t : Tab_) : State_ → List Int → Option (List Vis_)
  | _, [] => some []
  | s, i :: l => match spyref2_Table_Earliest t s i with
    | some r => if r.2.2 = 0 then (pr t r.2.1 l).map (r.1 :: ·) else none
    | none => none
def wl (p : Progr) (l : List Int) : Int := (l.map fun i => wt p i.toNat).sum
abbrev Best_ : Type := List Vis_ × Int
noncomputable def stepB (t : Tab_) (p : Progr) (s : State_) (now : List Vis_) (w : Int) (b : Best_) (l : List Int) : Best_ :=
  match pr t s l with
  | some vs => if w + wl p l > b.2 then (now ++ vs, w + wl p l) else b
  | none => b
def Low (p : Progr) (l : List Int) : Prop := ∀ i, i ∈ l → ∃ j : Nat, i = (j : Int) ∧ j < p.2.length
theorem LS_low (p : Progr) : ∀ k l, l ∈ LS p.2.length k → Low p l ∧ l.length + 1 ≤ k
  | 0, l, h => by cases h
  | k + 1, l, h => by
    unfold LS at h
    rcases List.mem_cons.1 h with rfl | h
    · exact ⟨fun i hi => absurd hi (by simp), by simp⟩
    · obtain ⟨i, hi, h⟩ := List.mem_flatMap.1 h
      obtain ⟨x, hx, rfl⟩ := List.mem_map.1 h
      obtain ⟨a, b⟩ := LS_low p k x hx
      refine ⟨fun j hj => ?_, by simpa using b⟩
      rcases List.mem_cons.1 hj with rfl | hj
      · have := List.mem_range'_1.1 hi
        exact ⟨i, rfl, by omega⟩
      · exact a j hj
section
variable {n : Night} {m : Mount_} {p : Progr} {cl : List (List Int)} {aim : List (List (Int × Int))}
theorem pr_left (hn : prop_CheckNight n = some 0) (hm : slew_CheckMount m = some 0) (ok : NightOk n) (mk : MtOk m) (pk : ProgOk p) (dk : DeskOk n p cl aim) : ∀ (l : List Int) (s : State_) (vs : List Vis_), Fits n m p s → Low p l → pr (n, m, p, cl) s l = some vs → wl p l ≤ left_ p s ∧ vs.length = l.length ∧ vs.map (·.1) = l.map fun i => (p.2.getD i.toNat zreq).1
  | [], s, vs, hs, _, h => by
    have := left_bound pk hs
    unfold pr at h
    cases h
    exact ⟨by unfold wl; simp; omega, rfl, rfl⟩
  | i :: l, s, vs, hs, hl, h => by
    obtain ⟨j, rfl, hj⟩ := hl i (by simp)
    obtain ⟨v, q, e, e1, e2, e3, e4⟩ := earliest_fit hn hm ok mk pk dk hs j hj
    unfold pr at h
    rw [e2] at h
    simp only at h
    by_cases he : e = 0
    · rw [if_pos he] at h
      obtain ⟨f1, f2, f3⟩ := e4 he
      obtain ⟨x, x1, x2⟩ := Option.map_eq_some_iff.1 h
      subst x2
      obtain ⟨a, b, c⟩ := pr_left hn hm ok mk pk dk l q x f1 (fun i hi => hl i (by simp [hi])) x1
      have := left_grown hs f2
      refine ⟨?_, by simp [b], by simp only [List.map_cons, c, f3, toNat_nat]⟩
      unfold wl at a ⊢
      rw [List.map_cons, List.sum_cons, toNat_nat]
      omega
    · rw [if_neg he] at h
      cases h
theorem fold_none (hn : prop_CheckNight n = some 0) (hm : slew_CheckMount m = some 0) (ok : NightOk n) (mk : MtOk m) (pk : ProgOk p) (dk : DeskOk n p cl aim) {s : State_} (hs : Fits n m p s) (now : List Vis_) (w : Int) (b : Best_) (h : w + left_ p s ≤ b.2) : ∀ L : List (List Int), (∀ l, l ∈ L → Low p l) → L.foldl (stepB (n, m, p, cl) p s now w) b = b
  | [], _ => rfl
  | l :: L, hL => by
    have e : stepB (n, m, p, cl) p s now w b l = b := by
      unfold stepB
      cases hp : pr (n, m, p, cl) s l with
      | none => rfl
      | some vs =>
        have := (pr_left hn hm ok mk pk dk l s vs hs (hL l (by simp)) hp).1
        simp only
        rw [if_neg (by omega)]
    rw [List.foldl_cons, e]
    exact fold_none hn hm ok mk pk dk hs now w b h L (fun l hl => hL l (by simp [hl]))
theorem fold_bad {s : State_} {i : Nat} {v : Vis_} {q : State_} {e : Int} (h : spyref2_Table_Earliest (n, m, p, cl) s (i : Int) = some (v, q, e)) (he : e ≠ 0) (now : List Vis_) (w : Int) : ∀ (L : List (List Int)) (b : Best_), (L.map ((i : Int) :: ·)).foldl (stepB (n, m, p, cl) p s now w) b = b
  | [], b => rfl
  | l :: L, b => by
    have e : stepB (n, m, p, cl) p s now w b ((i : Int) :: l) = b := by
      unfold stepB pr
      rw [h]
      simp only
      rw [if_neg he]
    rw [List.map_cons, List.foldl_cons, e]
    exact fold_bad h he now w L b
theorem fold_good {s : State_} {i : Nat} {v : Vis_} {q : State_} (h : spyref2_Table_Earliest (n, m, p, cl) s (i : Int) = some (v, q, 0)) (now : List Vis_) (w : Int) : ∀ (L : List (List Int)) (b : Best_), (L.map ((i : Int) :: ·)).foldl (stepB (n, m, p, cl) p s now w) b = L.foldl (stepB (n, m, p, cl) p q (now ++ [v]) (w + wt p i)) b
  | [], b => rfl
  | l :: L, b => by
    have e : stepB (n, m, p, cl) p s now w b ((i : Int) :: l) = stepB (n, m, p, cl) p q (now ++ [v]) (w + wt p i) b l := by
      unfold stepB
      rw [pr, h]
      simp only
      rw [if_pos trivial]
      have ew : w + wl p ((i : Int) :: l) = w + wt p i + wl p l := by
        unfold wl
        rw [List.map_cons, List.sum_cons, toNat_nat]
        omega
      cases pr (n, m, p, cl) q l with
      | none => rfl
      | some vs =>
        simp only [Option.map_some, ew, List.append_assoc, List.singleton_append]
    rw [List.map_cons, List.foldl_cons, List.foldl_cons, e]
    exact fold_good h now w L _
/-! The search. -/
theorem cloneV {e : Nat} (l : List Vis_) (hl : l.length ≤ 1000) : nilOr (.list true e (.prod (.int .i64) (.prod (.int .i64) (.prod (.int .i64) (.int .i64))))) l.isEmpty slices_Clone_api_Visit slices_Clone_api_Visit_1 (slices_Clone_api_Visit_2 l) = some l := by
  cases l with
  | nil => rw [slices_Clone_api_Visit_eq, slices_Clone_api_Visit_1_eq]; rfl
  | cons x l => rw [slices_Clone_api_Visit_2_eq, if_neg (by simp), if_pos (by rw [Nat.zero_add]; omega)]; rfl
noncomputable abbrev runP3 (n : Night) (m : Mount_) (p : Progr) (cl : List (List Int)) (aim : List (List (Int × Int))) (s : State_) (b : Best_) (now : List Vis_) (w : Int) := best_search_run.p3 s n.1.1 n.1.2 n.2.1.1 n.2.1.2.1 n.2.1.2.2.1 n.2.1.2.2.2 n.2.2.1 n.2.2.2.1 n.2.2.2.2.1 n.2.2.2.2.2.1.1 n.2.2.2.2.2.1.2.1 n.2.2.2.2.2.1.2.2 n.2.2.2.2.2.2.1.1 n.2.2.2.2.2.2.1.2.1 n.2.2.2.2.2.2.1.2.2 n.2.2.2.2.2.2.2.1 n.2.2.2.2.2.2.2.2 m.1.1 m.1.2.1 m.1.2.2.1 m.1.2.2.2 m.2.1.1 m.2.1.2.1 m.2.1.2.2.1 m.2.1.2.2.2 m.2.2.1 m.2.2.2 p.1 p.2 cl aim p.1 p.2 b.2 w b.1 now
noncomputable abbrev runP5 (n : Night) (m : Mount_) (p : Progr) (cl : List (List Int)) (aim : List (List (Int × Int))) (i : Int) (s : State_) (b : Best_) (now : List Vis_) (w : Int) := best_search_run.p5 p.2 p.2.length i s n.1.1 n.1.2 n.2.1.1 n.2.1.2.1 n.2.1.2.2.1 n.2.1.2.2.2 n.2.2.1 n.2.2.2.1 n.2.2.2.2.1 n.2.2.2.2.2.1.1 n.2.2.2.2.2.1.2.1 n.2.2.2.2.2.1.2.2 n.2.2.2.2.2.2.1.1 n.2.2.2.2.2.2.1.2.1 n.2.2.2.2.2.2.1.2.2 n.2.2.2.2.2.2.2.1 n.2.2.2.2.2.2.2.2 m.1.1 m.1.2.1 m.1.2.2.1 m.1.2.2.2 m.2.1.1 m.2.1.2.1 m.2.1.2.2.1 m.2.1.2.2.2 m.2.2.1 m.2.2.2 p.1 p.2 cl aim p.1 p.2 b.2 w b.1 now
theorem search_loop (hn : prop_CheckNight n = some 0) (hm : slew_CheckMount m = some 0) (ok : NightOk n) (mk : MtOk m) (pk : ProgOk p) (dk : DeskOk n p cl aim) {s : State_} (hs : Fits n m p s) (now : List Vis_) (w : Int) (hnow : (now.length : Int) ≤ s.1) (hw : 0 ≤ w ∧ w ≤ 100 * (now.length : Int)) (k : Nat) (hk : rest_ p s = (k : Int))
    (rec : ∀ q v i b, k = (k - 1) + 1 → Fits n m p q → Grown n m p s q i → best_search_run ((n, m, p, cl, aim), p, b, now ++ [v], w + wt p i) q = some ((), (n, m, p, cl, aim), p, (LS p.2.length k).foldl (stepB (n, m, p, cl) p q (now ++ [v]) (w + wt p i)) b, now ++ [v], w + wt p i)) :
    ∀ (u i : Nat) (b : Best_), p.2.length - i = u → i ≤ p.2.length → runP5 n m p cl aim i s b now w = some ((), (n, m, p, cl, aim), p, ((List.range' i u).flatMap fun (i : Nat) => (LS p.2.length k).map ((i : Int) :: ·)).foldl (stepB (n, m, p, cl) p s now w) b, now, w) := by
  have hr := pk.reqs
  have h64 := ok.slots
  have hslot := hs.slot
  intro u
  induction u with
  | zero =>
    intro i b hu hi
    unfold runP5
    rw [best_search_run.p5_eq, if_neg (by rw [dt]; omega)]
    rfl
  | succ u ih =>
    intro i b hu hi
    obtain ⟨v, q, e, e1, e2, e3, e4⟩ := earliest_fit hn hm ok mk pk dk hs i (by omega)
    unfold runP5
    rw [best_search_run.p5_eq, if_pos (by rw [dt]; omega), if_pos (by omega), if_pos (by omega)]
    have e1' : plan_Desk_Earliest (((n.1.1, n.1.2), (n.2.1.1, n.2.1.2.1, n.2.1.2.2.1, n.2.1.2.2.2), n.2.2.1, n.2.2.2.1, n.2.2.2.2.1, (n.2.2.2.2.2.1.1, n.2.2.2.2.2.1.2.1, n.2.2.2.2.2.1.2.2), (n.2.2.2.2.2.2.1.1, n.2.2.2.2.2.2.1.2.1, n.2.2.2.2.2.2.1.2.2), n.2.2.2.2.2.2.2.1, n.2.2.2.2.2.2.2.2), ((m.1.1, m.1.2.1, m.1.2.2.1, m.1.2.2.2), (m.2.1.1, m.2.1.2.1, m.2.1.2.2.1, m.2.1.2.2.2), m.2.2.1, m.2.2.2), (p.1, p.2), cl, aim) s (i : Int) = some (v, q, e) := e1
    rw [e1', bind_some_, List.range'_succ, List.flatMap_cons, List.foldl_append]
    by_cases he : e = 0
    case neg =>
      rw [if_pos (show (e != 0) = true by rw [ne_t]; exact he), fold_bad e2 he, wi_nat (by omega)]
      exact ih (i + 1) b (by omega) (by omega)
    subst he
    obtain ⟨f1, f2, f3⟩ := e4 rfl
    have g1 := rest_grown hs f2
    have g2 := rest_bound pk f1
    have wb := wt_bound pk (j := i) (by omega)
    have hz : (0, 0, (0, 0, 0), 0, 0, 0, 0, 0, 0, 0, 0) = zreq := rfl
    have ew : (p.2.getD i zreq).2.2.2.2.2.2.2.2.2.2 = wt p i := rfl
    rw [if_neg (show ¬ ((0 : Int) != 0) = true by decide), if_pos (by omega), fold_good e2, hz, toNat_nat, ew, wi (x := w + wt p i) (by omega) (by omega)]
    have r1 : best_search_run ((((n.1.1, n.1.2), (n.2.1.1, n.2.1.2.1, n.2.1.2.2.1, n.2.1.2.2.2), n.2.2.1, n.2.2.2.1, n.2.2.2.2.1, (n.2.2.2.2.2.1.1, n.2.2.2.2.2.1.2.1, n.2.2.2.2.2.1.2.2), (n.2.2.2.2.2.2.1.1, n.2.2.2.2.2.2.1.2.1, n.2.2.2.2.2.2.1.2.2), n.2.2.2.2.2.2.2.1, n.2.2.2.2.2.2.2.2), ((m.1.1, m.1.2.1, m.1.2.2.1, m.1.2.2.2), (m.2.1.1, m.2.1.2.1, m.2.1.2.2.1, m.2.1.2.2.2), m.2.2.1, m.2.2.2), (p.1, p.2), cl, aim), (p.1, p.2), (b.1, b.2), now ++ [v], w + wt p i) q = some ((), (n, m, p, cl, aim), p, (LS p.2.length k).foldl (stepB (n, m, p, cl) p q (now ++ [v]) (w + wt p i)) b, now ++ [v], w + wt p i) := rec q v i b (by omega) f1 f2
    rw [r1, bind_some_]
    simp only
    have el : IntKind.i64.wrap (((now ++ [v]).length : Int) - 1) = (now.length : Int) := by
      rw [List.length_append, List.length_singleton, wi (by omega) (by omega)]
      omega
    rw [el, if_pos (by omega), if_pos (by rw [List.length_append, List.length_singleton]; omega), toNat_nat, List.take_left' rfl, wi (x := w + wt p i - wt p i) (by omega) (by omega), show w + wt p i - wt p i = w by omega, wi_nat (by omega)]
    exact ih (i + 1) _ (by omega) (by omega)
theorem search_run (hn : prop_CheckNight n = some 0) (hm : slew_CheckMount m = some 0) (ok : NightOk n) (mk : MtOk m) (pk : ProgOk p) (dk : DeskOk n p cl aim) : ∀ (k : Nat) (s : State_) (now : List Vis_) (w : Int) (b : Best_), Fits n m p s → (now.length : Int) ≤ s.1 → 0 ≤ w ∧ w ≤ 100 * (now.length : Int) → rest_ p s = (k : Int) → best_search_run ((n, m, p, cl, aim), p, b, now, w) s = some ((), (n, m, p, cl, aim), p, (LS p.2.length (k + 1)).foldl (stepB (n, m, p, cl) p s now w) b, now, w) := by
  have h64 := ok.slots
  intro k
  induction k with
  | zero =>
    intro s now w b hs hnow hw hk
    exact body 0 s now w b hs hnow hw hk (fun q v i b h => absurd h (by omega))
  | succ k ih =>
    intro s now w b hs hnow hw hk
    refine body (k + 1) s now w b hs hnow hw hk (fun q v i b _ f1 f2 => ?_)
    have g1 := rest_grown hs f2
    have g3 := f2.lo
    have rl := req_len pk f2.hi
    have hz : (0, 0, (0, 0, 0), 0, 0, 0, 0, 0, 0, 0, 0) = zreq := rfl
    rw [hz] at rl
    have wb := wt_bound pk f2.hi
    exact ih q (now ++ [v]) (w + wt p i) b f1 (by rw [List.length_append, List.length_singleton]; omega) (by rw [List.length_append, List.length_singleton]; omega) (by omega)
where
  body (k : Nat) (s : State_) (now : List Vis_) (w : Int) (b : Best_) (hs : Fits n m p s) (hnow : (now.length : Int) ≤ s.1) (hw : 0 ≤ w ∧ w ≤ 100 * (now.length : Int)) (hk : rest_ p s = (k : Int)) (rec : ∀ q v i b, k = (k - 1) + 1 → Fits n m p q → Grown n m p s q i → best_search_run ((n, m, p, cl, aim), p, b, now ++ [v], w + wt p i) q = some ((), (n, m, p, cl, aim), p, (LS p.2.length k).foldl (stepB (n, m, p, cl) p q (now ++ [v]) (w + wt p i)) b, now ++ [v], w + wt p i)) : best_search_run ((n, m, p, cl, aim), p, b, now, w) s = some ((), (n, m, p, cl, aim), p, (LS p.2.length (k + 1)).foldl (stepB (n, m, p, cl) p s now w) b, now, w) := by
    have h64 := ok.slots
    have hslot := hs.slot
    have lb := left_bound pk hs
    have first : best_search_run ((n, m, p, cl, aim), p, b, now, w) s = runP3 n m p cl aim s (stepB (n, m, p, cl) p s now w b []) now w := by
      have e : stepB (n, m, p, cl) p s now w b [] = if w > b.2 then (now, w) else b := by
        unfold stepB
        rw [pr]
        simp only [wl, List.map_nil, List.sum_nil, Int.add_zero, List.append_nil]
      rw [best_search_run_eq, e]
      simp only
      by_cases c : w > b.2
      · rw [if_pos (show decide (w > b.2) = true by rw [dt]; exact c), cloneV now (by omega), bind_some_, if_pos c]
      · rw [if_neg (show ¬ decide (w > b.2) = true by rw [dt]; exact c), if_neg c]
    rw [first, LS, List.foldl_cons]
    generalize hb : stepB (n, m, p, cl) p s now w b [] = b1
    unfold runP3
    rw [best_search_run.p3_eq, left_val pk hs, bind_some_, wi (x := w + left_ p s) (by omega) (by omega)]
    by_cases c : w + left_ p s ≤ b1.2
    · rw [if_pos (show decide (w + left_ p s ≤ b1.2) = true by rw [dt]; exact c), fold_none hn hm ok mk pk dk hs now w b1 c _ (fun l hl => by
        obtain ⟨i, hi, h⟩ := List.mem_flatMap.1 hl
        obtain ⟨x, hx, rfl⟩ := List.mem_map.1 h
        obtain ⟨a, _⟩ := LS_low p k x hx
        intro j hj
        rcases List.mem_cons.1 hj with rfl | hj
        · have := List.mem_range'_1.1 hi
          exact ⟨i, rfl, by omega⟩
        · exact a j hj)]
    · rw [if_neg (show ¬ decide (w + left_ p s ≤ b1.2) = true by rw [dt]; exact c)]
      exact search_loop hn hm ok mk pk dk hs now w hnow hw k hk rec _ 0 b1 rfl (by omega)
/-! The reference's lists, plans and worths. -/
theorem concat_cons (i : Int) (l : List Int) (h : l.length ≤ 100) : slices_Concat_int_int [[i], l] = some (i :: l) := by
  have g : ∀ n : Nat, n ≤ 1000 → slices_Grow_int_int (n : Int) = some [] := by
    intro n hn
    rw [slices_Grow_int_int_eq, if_neg (by rw [dt]; omega), wi (x := (n : Int) - 0) (by omega) (by omega)]
    by_cases z : (n : Int) - 0 > 0
    · rw [if_pos (by rw [dt]; exact z), if_pos (by omega), if_pos (by omega), if_pos (by omega)]
      rfl
    · rw [if_neg (by rw [dt]; exact z)]
  have q0 : ∀ x y : List Int, [x, y].getD 0 [] = x := fun _ _ => rfl
  have q1 : ∀ x y : List Int, [x, y].getD 1 [] = y := fun _ _ => rfl
  have w1 : IntKind.i64.wrap (0 + 1) = 1 := by decide +kernel
  have w2 : IntKind.i64.wrap (1 + 1) = 2 := by decide +kernel
  have l2 : ([[i], l].length : Int) = 2 := rfl
  have t0 : (0 : Int).toNat = 0 := rfl
  have t1 : (1 : Int).toNat = 1 := rfl
  have li : (([i] : List Int).length : Int) = 1 := rfl
  rw [slices_Concat_int_int_eq, slices_Concat_int_int.p3_eq]
  simp only [l2, t0, q0, w1, li]
  rw [if_pos (by decide), if_pos (by decide), if_pos (by decide), if_neg (by decide), slices_Concat_int_int.p3_eq]
  simp only [l2, t1, q1, w2]
  rw [if_pos (by decide), if_pos (by decide), if_pos (by decide), wi (x := 1 + (l.length : Int)) (by omega) (by omega), if_neg (by rw [dt]; omega), slices_Concat_int_int.p3_eq]
  rw [if_neg (by decide), show 1 + (l.length : Int) = ((1 + l.length : Nat) : Int) by omega, g _ (by omega), bind_some_, slices_Concat_int_int.p11_eq]
  simp only [l2, t0, q0, w1]
  rw [if_pos (by decide), if_pos (by decide), if_pos (by decide), if_pos (by simp), slices_Concat_int_int.p11_eq]
  simp only [l2, t1, q1, w2]
  rw [if_pos (by decide), if_pos (by decide), if_pos (by decide), if_pos (by simp only [List.nil_append, List.length_singleton]; omega), slices_Concat_int_int.p11_eq, if_neg (by decide)]
  rfl
def sizeL (n : Nat) : Nat → Nat
  | 0 => 0
  | k + 1 => 1 + n * sizeL n k
theorem LS_size (n : Nat) : ∀ k, (LS n k).length = sizeL n k
  | 0 => rfl
  | k + 1 => by
    have h : ∀ u i, ((List.range' i u).flatMap fun (i : Nat) => (LS n k).map ((i : Int) :: ·)).length = u * sizeL n k := by
      intro u
      induction u with
      | zero => intro i; simp
      | succ u ih =>
        intro i
        rw [List.range'_succ, List.flatMap_cons, List.length_append, ih, List.length_map, LS_size n k, Nat.succ_mul, Nat.add_comm]
    rw [LS, List.length_cons, h, sizeL, Nat.add_comm]
theorem sizeL_low {n : Nat} (hn : n ≤ 16) {k : Nat} (hk : k ≤ 5) : sizeL n k ≤ 100000 := by
  have mono : ∀ k, sizeL n k ≤ sizeL 16 k := by
    intro k
    induction k with
    | zero => exact Nat.le_refl _
    | succ k ih =>
      unfold sizeL
      exact Nat.add_le_add_left (Nat.mul_le_mul hn ih) 1
  have up : ∀ k, k ≤ 5 → sizeL 16 k ≤ 100000 := by decide
  exact Nat.le_trans (mono k) (up k hk)
theorem lists_p9 (p : Progr) (hr : p.2.length ≤ 16) (k : Nat) (hk : k ≤ 4) (i : Nat) (hi : i < p.2.length) : ∀ (u j : Nat) (acc : List (List Int)), (LS p.2.length k).length - j = u → j ≤ (LS p.2.length k).length → acc.length + u ≤ 200000 → spylaw2_lists.p9 (LS p.2.length k) i p.2.length i (LS p.2.length k) ((LS p.2.length k).length : Int) j acc = spylaw2_lists.p6 (LS p.2.length k) p.2.length ((i + 1 : Nat) : Int) (acc ++ ((LS p.2.length k).drop j).map ((i : Int) :: ·)) := by
  have sz := sizeL_low hr (show k ≤ 5 by omega)
  rw [← LS_size] at sz
  intro u
  induction u with
  | zero =>
    intro j acc hu hj ha
    rw [spylaw2_lists.p9_eq, if_neg (by rw [dt]; omega), List.drop_eq_nil_of_le (by omega), wi_nat (by omega), List.map_nil, List.append_nil]
  | succ u ih =>
    intro j acc hu hj ha
    have hlt : j < (LS p.2.length k).length := by omega
    obtain ⟨_, b⟩ := LS_low p k _ (List.getElem_mem hlt)
    rw [spylaw2_lists.p9_eq, if_pos (by rw [dt]; omega), if_pos (by omega), if_pos (by omega), toNat_nat, getD_nat _ _ hlt, concat_cons _ _ (by omega), bind_some_, if_pos (by omega), wi_nat (by omega), ih (j + 1) _ (by omega) (by omega) (by rw [List.length_append, List.length_singleton]; omega), List.drop_eq_getElem_cons hlt, List.map_cons, List.append_assoc, List.singleton_append]
theorem lists_p6 (p : Progr) (hr : p.2.length ≤ 16) (k : Nat) (hk : k ≤ 4) : ∀ (u i : Nat) (acc : List (List Int)), p.2.length - i = u → i ≤ p.2.length → acc.length ≤ 1 + i * sizeL p.2.length k → spylaw2_lists.p6 (LS p.2.length k) p.2.length i acc = some (acc ++ (List.range' i u).flatMap fun (i : Nat) => (LS p.2.length k).map ((i : Int) :: ·)) := by
  have sz := sizeL_low hr (show k + 1 ≤ 5 by omega)
  unfold sizeL at sz
  intro u
  induction u with
  | zero =>
    intro i acc hu hi ha
    rw [spylaw2_lists.p6_eq, if_neg (by rw [dt]; omega)]
    simp
  | succ u ih =>
    intro i acc hu hi ha
    have m1 : (i + 1) * sizeL p.2.length k ≤ p.2.length * sizeL p.2.length k := Nat.mul_le_mul_right _ (by omega)
    have m2 : (i + 1) * sizeL p.2.length k = i * sizeL p.2.length k + sizeL p.2.length k := Nat.succ_mul _ _
    have e := lists_p9 p hr k hk i (by omega) _ 0 acc rfl (by omega) (by rw [Nat.sub_zero, LS_size]; omega)
    rw [show ((0 : Nat) : Int) = 0 from rfl, List.drop_zero] at e
    rw [spylaw2_lists.p6_eq, if_pos (by rw [dt]; omega), e, ih (i + 1) _ (by omega) (by omega) (by rw [List.length_append, List.length_map, LS_size]; omega), List.range'_succ, List.flatMap_cons, List.append_assoc]
theorem lists_val (p : Progr) (hr : p.2.length ≤ 16) : ∀ k : Nat, k ≤ 4 → spylaw2_lists (p.2.length : Int) (k : Int) = some (LS p.2.length (k + 1))
  | 0, _ => by
    rw [spylaw2_lists_eq, if_pos (by decide)]
    unfold LS
    congr 1
    have : ∀ u i, ((List.range' i u).flatMap fun (i : Nat) => (LS p.2.length 0).map ((i : Int) :: ·)) = [] := by
      intro u
      induction u with
      | zero => intro i; rfl
      | succ u ih => intro i; rw [List.range'_succ, List.flatMap_cons, ih]; rfl
    rw [this]
  | k + 1, hk => by
    rw [spylaw2_lists_eq, if_neg (by rw [eq_t]; omega), wi (by omega) (by omega), show ((k + 1 : Nat) : Int) - 1 = (k : Int) by omega, lists_val p hr k (by omega), bind_some_]
    have e := lists_p6 p hr (k + 1) hk _ 0 [[]] rfl (by omega) (by simp)
    rw [show ((0 : Nat) : Int) = 0 from rfl, Nat.sub_zero] at e
    rw [e]
    conv => rhs; rw [LS]
    rfl
theorem prompt_run (hn : prop_CheckNight n = some 0) (hm : slew_CheckMount m = some 0) (ok : NightOk n) (mk : MtOk m) (pk : ProgOk p) (dk : DeskOk n p cl aim) (l : List Int) (hl : l.length ≤ 100) (low : Low p l) : ∀ (u k : Nat) (s : State_) (acc : List Vis_), l.length - k = u → k ≤ l.length → Fits n m p s → acc.length ≤ k → spylaw2_prompt.p4 l l.length k (n, m, p, cl) s acc = some (match pr (n, m, p, cl) s (l.drop k) with | some vs => (acc ++ vs, true) | none => ([], false)) := by
  intro u
  induction u with
  | zero =>
    intro k s acc hu hk hs ha
    rw [spylaw2_prompt.p4_eq, if_neg (by rw [dt]; omega), List.drop_eq_nil_of_le (by omega), pr]
    simp only [List.append_nil]
  | succ u ih =>
    intro k s acc hu hk hs ha
    have hlt : k < l.length := by omega
    obtain ⟨j, ej, hj⟩ := low _ (List.getElem_mem hlt)
    obtain ⟨v, q, e, e1, e2, e3, e4⟩ := earliest_fit hn hm ok mk pk dk hs j hj
    rw [spylaw2_prompt.p4_eq, if_pos (by rw [dt]; omega), if_pos (by omega), if_pos (by omega), toNat_nat, getD_nat _ _ hlt, List.drop_eq_getElem_cons hlt, pr, ej, e2, bind_some_]
    simp only
    by_cases he : e = 0
    · obtain ⟨f1, _, _⟩ := e4 he
      rw [if_neg (show ¬ (e != 0) = true by rw [ne_t]; exact fun z => z he), if_pos (by omega), wi_nat (by omega), ih (k + 1) q _ (by omega) (by omega) f1 (by rw [List.length_append, List.length_singleton]; omega), if_pos he]
      cases pr (n, m, p, cl) q (l.drop (k + 1)) with
      | none => rfl
      | some vs => simp only [Option.map_some, List.append_assoc, List.singleton_append]
    · rw [if_pos (show (e != 0) = true by rw [ne_t]; exact he), if_neg he]
theorem worth_run (pk : ProgOk p) (l : List Int) (hl : l.length ≤ 100) (low : Low p l) (vs : List Vis_) (hv : vs.map (·.1) = l.map fun i => (p.2.getD i.toNat zreq).1) (hlen : vs.length = l.length) : ∀ (u k : Nat) (acc : Int), vs.length - k = u → k ≤ vs.length → 0 ≤ acc → acc ≤ 100 * (k : Int) → spyref2_Worth.p5 acc vs vs.length k p = some (acc + wl p (l.drop k)) := by
  have hr := pk.reqs
  intro u
  induction u with
  | zero =>
    intro k acc hu hk h0 h1
    rw [spyref2_Worth.p5_eq, if_neg (by rw [dt]; omega), List.drop_eq_nil_of_le (by omega)]
    simp [wl]
  | succ u ih =>
    intro k acc hu hk h0 h1
    have hlt : k < vs.length := by omega
    have hlt2 : k < l.length := by omega
    obtain ⟨j, ej, hj⟩ := low _ (List.getElem_mem hlt2)
    have id : vs[k].1 = (p.2.getD j zreq).1 := by
      have a : (vs.map (·.1))[k]? = (l.map fun i => (p.2.getD i.toNat zreq).1)[k]? := by rw [hv]
      rw [List.getElem?_map, List.getElem?_map, List.getElem?_eq_getElem hlt, List.getElem?_eq_getElem hlt2, ej] at a
      simpa using a
    have wb := wt_bound pk hj
    have hz : (0, 0, (0, 0, 0), 0, 0, 0, 0, 0, 0, 0, 0) = zreq := rfl
    have ew : (p.2.getD j zreq).2.2.2.2.2.2.2.2.2.2 = wt p j := rfl
    rw [spyref2_Worth.p5_eq, hz, if_pos (by rw [dt]; omega), if_pos (by omega), if_pos (by omega), toNat_nat, getD_nat _ _ hlt, id, index_self pk hj, bind_some_, if_pos (by rw [dt]; omega), if_pos (by omega), if_pos (by omega), toNat_nat, ew, wi (x := acc + wt p j) (by omega) (by omega), wi_nat (by omega), ih (k + 1) _ (by omega) (by omega) (by omega) (by omega), List.drop_eq_getElem_cons hlt2, ej]
    unfold wl
    rw [List.map_cons, List.sum_cons, toNat_nat, Int.add_assoc]
abbrev s0 (m : Mount_) (p : Progr) : State_ := (0, m.2.2, List.replicate p.2.length [])
theorem finds_run (hn : prop_CheckNight n = some 0) (hm : slew_CheckMount m = some 0) (ok : NightOk n) (mk : MtOk m) (pk : ProgOk p) (dk : DeskOk n p cl aim) (hpf : spyref2_ProgrammeFault p = some 0) (L : List (List Int)) (hL : ∀ l, l ∈ L → Low p l ∧ l.length ≤ 50) (hlen : L.length ≤ 1000000) (x : Best_) : ∀ (u k : Nat) (b : Best_), L.length - k = u → k ≤ L.length → b.1.length ≤ 50 → (L.drop k).foldl (stepB (n, m, p, cl) p (s0 m p) [] 0) b = x → spylaw2_BestFinds.p18 0 L L.length k p x (n, m, p, cl) b = some true := by
  have ff : Fits n m p (s0 m p) := first_fits ok pk ⟨mk.p, mk.q⟩
  intro u
  induction u with
  | zero =>
    intro k b hu hk hb h
    rw [List.drop_eq_nil_of_le (by omega), List.foldl_nil] at h
    subst h
    rw [spylaw2_BestFinds.p18_eq, if_neg (by rw [dt]; omega), if_pos (by decide), if_pos (by simp), eqv_same _ (by omega), bind_some_]
  | succ u ih =>
    intro k b hu hk hb h
    have hlt : k < L.length := by omega
    obtain ⟨low, hl⟩ := hL _ (List.getElem_mem hlt)
    have e := prompt_run hn hm ok mk pk dk L[k] (by omega) low _ 0 (s0 m p) [] rfl (by omega) ff (by simp)
    rw [show ((0 : Nat) : Int) = 0 from rfl, List.drop_zero] at e
    rw [List.drop_eq_getElem_cons hlt, List.foldl_cons] at h
    rw [spylaw2_BestFinds.p18_eq, if_pos (by rw [dt]; omega), if_pos (by omega), if_pos (by omega), toNat_nat, getD_nat _ _ hlt, spylaw2_prompt_eq, first_val pk, bind_some_, e, bind_some_, wi_nat (by omega)]
    cases hp : pr (n, m, p, cl) (s0 m p) L[k] with
    | none =>
      have es : stepB (n, m, p, cl) p (s0 m p) [] 0 b L[k] = b := by unfold stepB; rw [hp]
      rw [es] at h
      simp only
      rw [if_neg (by decide)]
      exact ih (k + 1) b (by omega) (by omega) hb h
    | some vs =>
      obtain ⟨a1, a2, a3⟩ := pr_left hn hm ok mk pk dk _ _ vs ff low hp
      have w := worth_run pk L[k] (by omega) low vs a3 a2 _ 0 0 rfl (by omega) (by omega) (by omega)
      rw [show ((0 : Nat) : Int) = 0 from rfl, List.drop_zero, Int.zero_add] at w
      have wv : spyref2_Worth p vs = some (wl p L[k]) := by
        rw [spyref2_Worth_eq, hpf, bind_some_, if_neg (by decide)]
        exact w
      simp only [List.nil_append]
      rw [if_pos trivial, wv, bind_some_, bind_some_]
      have es : stepB (n, m, p, cl) p (s0 m p) [] 0 b L[k] = if wl p L[k] > b.2 then (vs, wl p L[k]) else b := by
        unfold stepB
        rw [hp]
        simp only [Int.zero_add, List.nil_append]
      rw [es] at h
      by_cases c : wl p L[k] > b.2
      · rw [if_pos (show decide (wl p L[k] > b.2) = true by rw [dt]; exact c)]
        rw [if_pos c] at h
        exact ih (k + 1) _ (by omega) (by omega) (by simp only; omega) h
      · rw [if_neg (show ¬ decide (wl p L[k] > b.2) = true by rw [dt]; exact c)]
        rw [if_neg c] at h
        exact ih (k + 1) b (by omega) (by omega) hb h
theorem rest_first (pk : ProgOk p) : ∀ (u k : Nat), p.2.length - k = u → k ≤ p.2.length → lsum (toGo p (s0 m p)) u k = visSum (p.2.drop k) := by
  intro u
  induction u with
  | zero =>
    intro k hu hk
    rw [List.drop_eq_nil_of_le (by omega)]
    rfl
  | succ u ih =>
    intro k hu hk
    rw [vis_drop _ (by omega), lsum, ih (k + 1) (by omega) (by omega)]
    unfold toGo
    rw [getD_repl]
    simp
theorem sum_p9 (pk : ProgOk p) (x : Best_) : ∀ (u k : Nat) (acc : Int), p.2.length - k = u → k ≤ p.2.length → 0 ≤ acc → acc ≤ 4 * (k : Int) → spylaw2_BestFinds.p9 0 acc p.2 p.2.length k n m p x = (if decide (acc + visSum (p.2.drop k) > 4) = true then (some true) else ((spyref2_NewTable n m p).bind fun r => (spylaw2_lists (p.2.length : Int) (acc + visSum (p.2.drop k))).bind fun r1 => spylaw2_BestFinds.p18 0 r1 (r1.length : Int) 0 p x r ([], 0))) := by
  have hr := pk.reqs
  intro u
  induction u with
  | zero =>
    intro k acc hu hk h0 h1
    rw [spylaw2_BestFinds.p9_eq, if_neg (show ¬ decide ((k : Int) < (p.2.length : Int)) = true by rw [dt]; omega), List.drop_eq_nil_of_le (by omega), show visSum [] = 0 from rfl, Int.add_zero]
  | succ u ih =>
    intro k acc hu hk h0 h1
    have q := req_len pk (j := k) (by omega)
    have hz : (0, 0, (0, 0, 0), 0, 0, 0, 0, 0, 0, 0, 0) = zreq := rfl
    rw [hz] at q
    rw [spylaw2_BestFinds.p9_eq, hz, toNat_nat, if_pos (show decide ((k : Int) < (p.2.length : Int)) = true by rw [dt]; omega), if_pos (show (0 : Int) ≤ (k : Int) by omega), if_pos (show (k : Int) < (p.2.length : Int) by omega), wi (x := acc + (p.2.getD k zreq).2.2.2.2.1) (by omega) (by omega), wi_nat (by omega), ih (k + 1) _ (by omega) (by omega) (by omega) (by omega), vis_drop p.2 (k := k) (by omega), Int.add_assoc]
end
theorem BestFinds : ∀ (x0 : (Int × Int) × (Int × Int × Int × Int) × Int × Int × Int × (Int × Int × Int) × (Int × Int × Int) × Int × List Int) (x1 : (Int × Int × Int × Int) × (Int × Int × Int × Int) × Int × Int) (x2 : (List (ByteArray × Int)) × List (Int × Int × (Int × Int × Int) × Int × Int × Int × Int × Int × Int × Int × Int)), goodT Tryz.prog (.prod (.prod (.int .i64) (.int .i64)) (.prod (.prod (.int .i64) (.prod (.int .i64) (.prod (.int .i64) (.int .i64)))) (.prod (.int .i64) (.prod (.int .i64) (.prod (.int .i64) (.prod (.prod (.int .i64) (.prod (.int .i64) (.int .i64))) (.prod (.prod (.int .i64) (.prod (.int .i64) (.int .i64))) (.prod (.int .i64) (.list false 3 (.int .i64)))))))))) x0 → goodT Tryz.prog (.prod (.prod (.int .i64) (.prod (.int .i64) (.prod (.int .i64) (.int .i64)))) (.prod (.prod (.int .i64) (.prod (.int .i64) (.prod (.int .i64) (.int .i64)))) (.prod (.int .i64) (.int .i64)))) x1 → goodT Tryz.prog (.prod (.list false 121 (.prod .str (.int .i64))) (.list false 85 (.prod (.int .i64) (.prod (.int .i64) (.prod (.prod (.int .i64) (.prod (.int .i64) (.int .i64))) (.prod (.int .i64) (.prod (.int .i64) (.prod (.int .i64) (.prod (.int .i64) (.prod (.int .i64) (.prod (.int .i64) (.prod (.int .i64) (.int .i64))))))))))))) x2 → spylaw2_BestFinds x0 x1 x2 = some true := by
  intro n m p hn hm hp
  obtain ⟨e, c1, c2, c3⟩ := all_same n m p
  rw [spylaw2_BestFinds_eq, bests_ok, bind_some_, if_neg (by decide), best_Find_eq]
  by_cases he : e = 0
  · subst he
    obtain ⟨nok, pok⟩ := c3 rfl
    obtain ⟨hnight, hmount, mok⟩ := all_parts c1
    obtain ⟨cl, aim, dk, d1, d2⟩ := desk_new c1 hnight nok pok
    rw [open_ok pok d1, fault_ok_ pok c2]
    by_cases c : decide (visSum p.2 > 5) = true
    · rw [if_pos c, if_pos c, bind_some_, if_pos (by decide), bind_some_, bind_some_, if_pos (by decide), if_pos (by decide), if_pos (by decide)]
      rfl
    · have hr := pok.reqs
      have vl := vis_low pok _ 0 rfl (by omega)
      rw [List.drop_zero] at vl
      have ff : Fits n m p (s0 m p) := first_fits nok pok ⟨mok.p, mok.q⟩
      have rf : rest_ p (s0 m p) = visSum p.2 := by
        have := rest_first (m := m) pok _ 0 rfl (by omega)
        rw [List.drop_zero, Nat.sub_zero] at this
        exact this
      have run := search_run hnight hmount nok mok pok dk (visSum p.2).toNat (s0 m p) [] 0 ([], 0) ff (by simp) (by simp) (by rw [rf]; omega)
      rw [if_neg c, if_neg c, bind_some_, if_neg (show ¬ ((0 : Int) != 0) = true by decide), start_val pok, bind_some_]
      simp only
      rw [run, bind_some_, bind_some_, bind_some_, if_neg (show ¬ ((0 : Int) != 0) = true by decide)]
      simp only
      have s9 := sum_p9 (n := n) (m := m) pok ((LS p.2.length ((visSum p.2).toNat + 1)).foldl (stepB (n, m, p, cl) p (s0 m p) [] 0) ([], 0)) _ 0 0 rfl (by omega) (by omega) (by omega)
      rw [List.drop_zero, Int.zero_add, show ((0 : Nat) : Int) = 0 from rfl] at s9
      rw [s9]
      by_cases g : visSum p.2 > 4
      · rw [if_pos (by rw [dt]; exact g)]
      · have el := lists_val p hr (visSum p.2).toNat (by omega)
        rw [show (((visSum p.2).toNat : Nat) : Int) = visSum p.2 by omega] at el
        have hpf : spyref2_ProgrammeFault p = some 0 := by
          obtain ⟨e, e1, e2, _⟩ := prog_same p
          have h1 := c1
          rw [plan_CheckAll_eq, hnight, bind_some_, if_neg (by decide), hmount, bind_some_, if_neg (by decide), e1, bind_some_] at h1
          rw [e2, Option.some.inj h1]
        rw [if_neg (by rw [dt]; exact g), d2, bind_some_, el, bind_some_]
        have sz := sizeL_low hr (show (visSum p.2).toNat + 1 ≤ 5 by omega)
        exact finds_run hnight hmount nok mok pok dk hpf _ (fun l hl => by obtain ⟨a, b⟩ := LS_low p _ l hl; exact ⟨a, by omega⟩) (by rw [LS_size]; omega) _ _ 0 ([], 0) rfl (by omega) (by simp) rfl
  · have h : (e != 0) = true := by rw [ne_t]; exact he
    rw [open_bad c1 he, bind_some_, if_pos h, bind_some_, spylaw2_bestFault_eq, c2, bind_some_, if_pos h, bind_some_, if_pos h, if_pos (by simp)]
    rfl

end Go.Proofs.YtahedflmojodmaaGreat.Pure
