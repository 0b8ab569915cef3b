/- Desks, tables, states. -/
import Derived.Test.YtahedflmojodmaaGreatEB0
import Derived.Test.YtahedflmojodmaaGreatEB1
import Derived.Test.YtahedflmojodmaaGreatEB2
import Derived.Test.YtahedflmojodmaaGreatEB3
import Derived.Test.YtahedflmojodmaaGreatEB4
import Derived.Test.YtahedflmojodmaaGreatEB5
import Derived.Test.YtahedflmojodmaaGreatEB6
import Derived.Test.YtahedflmojodmaaGreatEB7
import Derived.Test.YtahedflmojodmaaGreatPl
import Derived.Test.YtahedflmojodmaaGreatLemA
import Derived.Test.YtahedflmojodmaaGreatLemB
namespace Go.Proofs.YtahedflmojodmaaGreat.Pure
set_option linter.unusedVariables false
set_option linter.unusedSimpArgs false
open Go Go.RowKit Go.Proofs.YtahedflmojodmaaGreat.Pv Go.Proofs.YtahedflmojodmaaGreat.Pl Go.Proofs.YtahedflmojodmaaGreat.EB

theorem closed_list (n : Night) (r : Req) (hc : (n.2.2.2.2.2.2.2.2.length : Int) = n.2.2.2.2.1) (hs : n.2.2.2.2.1 ≤ 64) : ∃ l : List Int, spyref2_AllClosed n r = some l ∧ (l.length : Int) = n.2.2.2.2.1 ∧ ∀ k : Nat, (h : k < l.length) → window_why n r k = some l[k] := by
  have h0 : 0 ≤ n.2.2.2.2.1 := by omega
  have main : ∀ (u : Nat) (k : Nat) (acc : List Int), n.2.2.2.2.1.toNat - k = u → k ≤ n.2.2.2.2.1.toNat → acc.length = k → (∀ j : Nat, (h : j < acc.length) → window_why n r j = some acc[j]) →
      ∃ l : List Int, spyref2_AllClosed.p3 (k : Int) n r acc = some l ∧ (l.length : Int) = n.2.2.2.2.1 ∧ ∀ j : Nat, (h : j < l.length) → window_why n r j = some l[j] := by
    intro u
    induction u with
    | zero =>
      intro k acc hu hk hl hw
      rw [spyref2_AllClosed.p3_eq, if_neg (by rw [dt]; omega)]
      exact ⟨acc, rfl, by omega, hw⟩
    | succ u ih =>
      intro k acc hu hk hl hw
      obtain ⟨c, c1, c2, _⟩ := closed_same n r k (by omega) (by omega)
      rw [spyref2_AllClosed.p3_eq, if_pos (by rw [dt]; omega), c2, bind_some_, if_pos (by omega), wi_nat (by omega)]
      refine ih (k + 1) (acc ++ [c]) (by omega) (by omega) (by simp [hl]) fun j hj => ?_
      by_cases e : j < acc.length
      · rw [List.getElem_append_left e]
        exact hw j e
      · have : j = k := by simp at hj; omega
        subst this
        rw [List.getElem_append_right (by omega), c1]
        simp [hl]
  rw [spyref2_AllClosed_eq]
  exact main _ 0 [] rfl (by omega) rfl (fun j h => by simp at h)
/-- A list that is filled place by place. -/
theorem set_fill {α : Type} {acc l : List α} {k : Nat} (hk : k < l.length) (hl : acc.length = l.length) (h : ∀ j, j < k → acc[j]? = l[j]?) : ∀ j, j < k + 1 → (acc.set k l[k])[j]? = l[j]? := by
  intro j hj
  rw [List.getElem?_set]
  by_cases e : k = j
  · subst e
    rw [if_pos rfl, if_pos (by omega), List.getElem?_eq_getElem hk]
  · rw [if_neg e]
    exact h j (by omega)
theorem fill_end {α : Type} {acc l : List α} (hl : acc.length = l.length) (h : ∀ j, j < l.length → acc[j]? = l[j]?) : acc = l := by
  apply List.ext_getElem?
  intro j
  by_cases e : j < l.length
  · exact h j e
  · rw [List.getElem?_eq_none (by omega), List.getElem?_eq_none (by omega)]
theorem slots_p6 (n : Night) (r : Req) (l : List Int) (hl : l.length ≤ 64) (hw : ∀ k : Nat, (h : k < l.length) → window_why n r k = some l[k]) : ∀ (u k : Nat) (acc : List Int), l.length - k = u → k ≤ l.length → acc.length = l.length → (∀ j, j < k → acc[j]? = l[j]?) → window_Slots.p6 (l.length : Int) k n r acc = some (l, 0) := by
  intro u
  induction u with
  | zero =>
    intro k acc hu hk ha hj
    rw [window_Slots.p6_eq, if_neg (by rw [dt]; omega), fill_end ha (fun j h => hj j (by omega))]
  | succ u ih =>
    intro k acc hu hk ha hj
    have hlt : k < l.length := by omega
    rw [window_Slots.p6_eq, if_pos (by rw [dt]; omega), hw k hlt, bind_some_, if_pos (by omega), if_pos (by omega), wi_nat (by omega), toNat_nat]
    exact ih (k + 1) _ (by omega) (by omega) (by simp [ha]) (set_fill hlt ha hj)
abbrev Axis_ : Type := Int × Int × Int × Int
abbrev Mount_ : Type := Axis_ × Axis_ × Int × Int
abbrev State_ : Type := Int × (Int × Int) × List (List Int)
theorem axis_same (a : Axis_) : Same (fun _ => True) (slew_CheckAxis a) (spyref2_AxisFault a) := by
  rw [slew_CheckAxis_eq, spyref2_AxisFault_eq, Int.mul_comm a.2.2.2 64]
  simp only [dt, df]
  repeat' (refine Same.ite Iff.rfl (fun _ => ?_) (fun _ => ?_))
  all_goals try exact .mk _ trivial
  by_cases c1 : a.2.2.2 > a.2.2.1
  · rw [if_neg (show ¬ ¬ a.2.2.2 > a.2.2.1 by omega)]
    refine .right (fun _ => ?_) (fun _ => .mk _ trivial)
    rw [if_neg (show ¬ ¬ a.2.2.2 > a.2.2.1 by omega)]
    exact .mk _ trivial
  · rw [if_pos (show ¬ a.2.2.2 > a.2.2.1 by omega), if_pos (show ¬ a.2.2.2 > a.2.2.1 by omega)]
    exact .ite Iff.rfl (fun _ => .ite Iff.rfl (fun _ => .mk _ trivial) (fun _ => .mk _ trivial)) (fun _ => .mk _ trivial)
theorem in_within (a : Axis_) (x : Int) : slew_In a x = some (decide (a.1 ≤ x ∧ x ≤ a.2.1)) ∧ spyref2_Within a x = some (decide (a.1 ≤ x ∧ x ≤ a.2.1)) := by
  rw [slew_In_eq, spyref2_Within_eq]
  simp only [dt, ge_iff_le]
  by_cases h : a.1 ≤ x
  · rw [if_pos h]
    simp [h]
  · rw [if_neg h]
    simp [h]
theorem mount_same (m : Mount_) : Same (fun _ => True) (slew_CheckMount m) (spyref2_MountFault m) := by
  rw [slew_CheckMount_eq, spyref2_MountFault_eq]
  refine (axis_same m.1).bind fun r _ => .ite Iff.rfl (fun _ => .mk _ trivial) (fun _ => (axis_same m.2.1).bind fun r _ => .ite Iff.rfl (fun _ => .mk _ trivial) (fun _ => ?_))
  rw [(in_within ..).1, (in_within ..).1, (in_within ..).2, (in_within ..).2]
  simp only [bind_some_]
  exact .ite Iff.rfl (fun _ => .ite Iff.rfl (fun _ => .mk _ trivial) (fun _ => .mk _ trivial)) (fun _ => .mk _ trivial)
theorem all_same (n : Night) (m : Mount_) (p : Progr) : Same (fun r => r = 0 → NightOk n ∧ ProgOk p) (plan_CheckAll n m p) (spyref2_AllFault n m p) := by
  obtain ⟨h1, e, h2⟩ := night_eq n
  rw [plan_CheckAll_eq, spyref2_AllFault_eq, h1, h2, bind_some_, bind_some_]
  refine .ite Iff.rfl (fun q => .mk _ (fun z => by rw [z] at q; exact absurd q (by decide))) (fun q => ?_)
  have he : e = 0 := Classical.byContradiction fun z => q (by rw [ne_t]; exact z)
  refine (mount_same m).bind fun r _ => .ite Iff.rfl (fun q => .mk _ (fun z => by rw [z] at q; exact absurd q (by decide))) (fun _ => ?_)
  rw [bind_id, bind_id]
  exact (prog_same p).imp fun r hr hz => ⟨night_ok (by rw [h2, he]), hr hz⟩
/-! The desk and the table. -/
theorem request_dir {r : Req} (h : spyref2_RequestFault r = some 0) : sphere_Check r.2.2.1 = some 0 := by
  obtain ⟨e, s1, d1⟩ := dir_check r.2.2.1
  rw [spyref2_RequestFault_eq, in_val, in_val, in_val, d1] at h
  simp only [bind_some_] at h
  obtain ⟨_, h⟩ := ite_1 (by omega) h
  obtain ⟨h1, _⟩ := ite_1 (by omega) h
  rw [not_t, df] at h1
  have : e = 0 := Classical.byContradiction h1
  rw [s1, this]
theorem slots_ok {n : Night} {r : Req} (hn : prop_CheckNight n = some 0) (ok : NightOk n) (hr : spyref2_RequestFault r = some 0) : ∃ l, window_Slots n r = some (l, 0) ∧ spyref2_AllClosed n r = some l ∧ (l.length : Int) = n.2.2.2.2.1 := by
  obtain ⟨f, h3, h4, _⟩ := request_same r
  have hf : f = 0 := by
    rw [hr] at h4
    exact (Option.some.inj h4).symm
  subst hf
  have h1 : window_both n r = some 0 := by
    rw [window_both_eq, hn, bind_some_, if_neg (by decide), h3]
    first | rfl | (rw [bind_some_])
  have hs := ok.slots
  obtain ⟨l, l1, l2, l3⟩ := closed_list n r ok.cloud hs.2
  have q := slots_p6 n r l (by omega) l3 _ 0 (List.replicate n.2.2.2.2.1.toNat (0 : Int)) rfl (by omega) (by simp; omega) (fun j h => absurd h (by omega))
  have el : ((List.replicate n.2.2.2.2.1.toNat (0 : Int)).length : Int) = (l.length : Int) := by simp; omega
  rw [show ((0 : Nat) : Int) = 0 from rfl] at q
  refine ⟨l, ?_, l1, l2⟩
  rw [window_Slots_eq, h1, bind_some_, if_neg (by decide), if_pos rfl, if_pos (by omega), if_pos (by omega), el, q]
theorem req_fault {p : Progr} (ok : ProgOk p) {j : Nat} (h : j < p.2.length) : spyref2_RequestFault (p.2.getD j (0, 0, (0, 0, 0), 0, 0, 0, 0, 0, 0, 0, 0)) = some 0 := by
  rw [getD_nat _ _ h]
  exact (ok.at_ j h).1
theorem req_len {p : Progr} (ok : ProgOk p) {j : Nat} (h : j < p.2.length) : 1 ≤ (p.2.getD j (0, 0, (0, 0, 0), 0, 0, 0, 0, 0, 0, 0, 0)).2.2.2.1 ∧ (p.2.getD j (0, 0, (0, 0, 0), 0, 0, 0, 0, 0, 0, 0, 0)).2.2.2.1 ≤ 8 ∧ 1 ≤ (p.2.getD j (0, 0, (0, 0, 0), 0, 0, 0, 0, 0, 0, 0, 0)).2.2.2.2.1 ∧ (p.2.getD j (0, 0, (0, 0, 0), 0, 0, 0, 0, 0, 0, 0, 0)).2.2.2.2.1 ≤ 4 := request_len (req_fault ok h)
structure DeskOk (n : Night) (p : Progr) (cl : List (List Int)) (aim : List (List (Int × Int))) : Prop where
  lc : cl.length = p.2.length
  la : aim.length = p.2.length
  c : ∀ j, j < p.2.length → spyref2_AllClosed n (p.2.getD j (0, 0, (0, 0, 0), 0, 0, 0, 0, 0, 0, 0, 0)) = some (cl.getD j []) ∧ ((cl.getD j []).length : Int) = n.2.2.2.2.1
  a : ∀ j, j < p.2.length → ((aim.getD j []).length : Int) = n.2.2.2.2.1 + 1 ∧ ∀ k, k < (aim.getD j []).length → slew_Aim n (p.2.getD j (0, 0, (0, 0, 0), 0, 0, 0, 0, 0, 0, 0, 0)).2.2.1 (k : Int) = some ((aim.getD j []).getD k (0, 0), 0)
theorem getD_set_same {α : Type} (l : List α) {i : Nat} (h : i < l.length) (x d : α) : (l.set i x).getD i d = x := by
  rw [List.getD_eq_getElem?_getD, List.getElem?_set, if_pos rfl, if_pos h]
  rfl
theorem getD_set_ne {α : Type} (l : List α) {i j : Nat} (h : i ≠ j) (x d : α) : (l.set i x).getD j d = l.getD j d := by
  rw [List.getD_eq_getElem?_getD, List.getElem?_set, if_neg h, List.getD_eq_getElem?_getD]
theorem getD_app {α : Type} (l : List α) (x d : α) {j : Nat} (h : j < l.length + 1) : (l ++ [x]).getD j d = if j = l.length then x else l.getD j d := by
  by_cases e : j = l.length
  · rw [if_pos e, e]
    simp
  · rw [if_neg e, List.getD_eq_getElem?_getD, List.getElem?_append_left (by omega), List.getD_eq_getElem?_getD]
theorem desk_p12 {n : Night} (hn : prop_CheckNight n = some 0) (ok : NightOk n) {r : Req} (hr : spyref2_RequestFault r = some 0) (T : List Req) (t49 : Int) (b6 : Night × Mount_ × Progr × List (List Int) × List (List (Int × Int))) (d0 d1 d2 d3 d4 d5 d6 d7 d8 d9 d10 d11 d12 d13 d14 d15 : Int) (d16 : List Int) (d17 d18 d19 d20 d21 d22 d23 d24 d25 d26 : Int) (d27 : List (ByteArray × Int)) (d28 : List Req) (sh : List (List Int)) (i : Nat) :
    ∀ (u k : Nat) (b : List (List (Int × Int))), n.2.2.2.2.1.toNat + 1 - k = u → k ≤ n.2.2.2.2.1.toNat + 1 → i < b.length → (b.getD i []).length = k → (∀ j, j < (b.getD i []).length → slew_Aim n r.2.2.1 (j : Int) = some ((b.getD i []).getD j (0, 0), 0)) →
    ∃ a : List (Int × Int), (a.length : Int) = n.2.2.2.2.1 + 1 ∧ (∀ j, j < a.length → slew_Aim n r.2.2.1 (j : Int) = some (a.getD j (0, 0), 0)) ∧
      plan_NewDesk.p12 i T t49 i (n.2.2.2.2.1 + 1) k n b6 d0 d1 d2 d3 d4 d5 d6 d7 d8 d9 d10 d11 d12 d13 d14 d15 d16 d17 d18 d19 d20 d21 d22 d23 d24 d25 d26 d27 d28 r sh b = plan_NewDesk.p8 T t49 (IntKind.i64.wrap ((i : Int) + 1)) n b6 d0 d1 d2 d3 d4 d5 d6 d7 d8 d9 d10 d11 d12 d13 d14 d15 d16 d17 d18 d19 d20 d21 d22 d23 d24 d25 d26 d27 d28 sh (b.set i a) := by
  have hs := ok.slots
  intro u
  induction u with
  | zero =>
    intro k b hu hk hi hl ha
    rw [plan_NewDesk.p12_eq, if_neg (by rw [dt]; omega)]
    refine ⟨b.getD i [], by omega, ha, ?_⟩
    rw [getD_nat _ _ hi, List.set_getElem_self]
  | succ u ih =>
    intro k b hu hk hi hl ha
    obtain ⟨a, a1, _, _⟩ := aim_def hn ok (request_dir hr) (k := (k : Int)) (by omega) (by omega)
    have hset : i < (b.set i (b.getD i [] ++ [a])).length := by simpa using hi
    obtain ⟨c, c1, c2, c3⟩ := ih (k + 1) (b.set i (b.getD i [] ++ [a])) (by omega) (by omega) hset (by rw [getD_set_same _ hi, List.length_append, List.length_singleton]; omega) (fun j hj => by
      rw [getD_set_same _ hi] at hj ⊢
      rw [List.length_append, List.length_singleton] at hj
      rw [getD_app _ _ _ hj]
      by_cases e : j = (b.getD i []).length
      · rw [if_pos e, e, hl]
        exact a1
      · rw [if_neg e]
        exact ha j (by omega))
    refine ⟨c, c1, c2, ?_⟩
    rw [plan_NewDesk.p12_eq, if_pos (by rw [dt]; omega), a1, bind_some_, if_pos (by omega), if_pos (by omega), toNat_nat, if_pos (by omega), if_pos (by omega), if_pos (by omega), if_pos rfl, wi_nat (by omega), c3, List.set_set]
theorem desk_p8 {n : Night} (hn : prop_CheckNight n = some 0) (ok : NightOk n) {p : Progr} (pk : ProgOk p) (b6 : Night × Mount_ × Progr × List (List Int) × List (List (Int × Int))) (d0 d1 d2 d3 d4 d5 d6 d7 d8 d9 d10 d11 d12 d13 d14 d15 : Int) (d16 : List Int) (d17 d18 d19 d20 d21 d22 d23 d24 d25 d26 : Int) (d27 : List (ByteArray × Int)) (d28 : List Req) :
    ∀ (u k : Nat) (sh : List (List Int)) (b : List (List (Int × Int))), p.2.length - k = u → k ≤ p.2.length → sh.length = p.2.length → b.length = p.2.length →
      (∀ j, j < k → spyref2_AllClosed n (p.2.getD j (0, 0, (0, 0, 0), 0, 0, 0, 0, 0, 0, 0, 0)) = some (sh.getD j []) ∧ ((sh.getD j []).length : Int) = n.2.2.2.2.1) →
      (∀ j, j < k → ((b.getD j []).length : Int) = n.2.2.2.2.1 + 1 ∧ ∀ i, i < (b.getD j []).length → slew_Aim n (p.2.getD j (0, 0, (0, 0, 0), 0, 0, 0, 0, 0, 0, 0, 0)).2.2.1 (i : Int) = some ((b.getD j []).getD i (0, 0), 0)) →
      (∀ j, k ≤ j → b.getD j [] = []) → ∃ cl aim, DeskOk n p cl aim ∧ plan_NewDesk.p8 p.2 p.2.length k n b6 d0 d1 d2 d3 d4 d5 d6 d7 d8 d9 d10 d11 d12 d13 d14 d15 d16 d17 d18 d19 d20 d21 d22 d23 d24 d25 d26 d27 d28 sh b = some ((((d0, d1), (d2, d3, d4, d5), d6, d7, d8, (d9, d10, d11), (d12, d13, d14), d15, d16), ((d17, d18, d19, d20), (d21, d22, d23, d24), d25, d26), (d27, d28), cl, aim), 0) := by
  have hs := ok.slots
  have hr := pk.reqs
  intro u
  induction u with
  | zero =>
    intro k sh b hu hk h1 h2 h3 h4 h5
    rw [plan_NewDesk.p8_eq, if_neg (by rw [dt]; omega)]
    exact ⟨sh, b, ⟨h1, h2, fun j hj => h3 j (by omega), fun j hj => h4 j (by omega)⟩, rfl⟩
  | succ u ih =>
    intro k sh b hu hk h1 h2 h3 h4 h5
    have hlt : k < p.2.length := by omega
    obtain ⟨l, l1, l2, l3⟩ := slots_ok hn ok (req_fault pk hlt)
    obtain ⟨a, a1, a2, a3⟩ := desk_p12 hn ok (req_fault pk hlt) p.2 p.2.length b6 d0 d1 d2 d3 d4 d5 d6 d7 d8 d9 d10 d11 d12 d13 d14 d15 d16 d17 d18 d19 d20 d21 d22 d23 d24 d25 d26 d27 d28 (sh.set k l) k _ 0 b rfl (by omega) (by omega) (by rw [h5 k (Nat.le_refl _)]; rfl) (fun j hj => by rw [h5 k (Nat.le_refl _)] at hj; simp at hj)
    obtain ⟨cl, aim, e1, e2⟩ := ih (k + 1) (sh.set k l) (b.set k a) (by omega) (by omega) (by simpa using h1) (by simpa using h2) (fun j hj => by
      by_cases e : k = j
      · subst e
        rw [getD_set_same _ (by omega)]
        exact ⟨l2, l3⟩
      · rw [getD_set_ne _ e]
        exact h3 j (by omega)) (fun j hj => by
      by_cases e : k = j
      · subst e
        rw [getD_set_same _ (by omega)]
        exact ⟨a1, a2⟩
      · rw [getD_set_ne _ e]
        exact h4 j (by omega)) (fun j hj => by rw [getD_set_ne _ (by omega)]; exact h5 j (by omega))
    refine ⟨cl, aim, e1, ?_⟩
    rw [show ((0 : Nat) : Int) = 0 from rfl, wi_nat (by omega)] at a3
    rw [plan_NewDesk.p8_eq, if_pos (by rw [dt]; omega), if_pos (by omega), if_pos (by omega), toNat_nat, l1, bind_some_, if_pos (by omega), if_pos (by omega), wi (x := n.2.2.2.2.1 + 1) (by omega) (by omega), a3, e2]
theorem table_p3 {n : Night} {p : Progr} (pk : ProgOk p) {cl : List (List Int)} {aim : List (List (Int × Int))} (dk : DeskOk n p cl aim) (b6 : Night × Mount_ × Progr × List (List Int)) (d0 d1 d2 d3 d4 d5 d6 d7 d8 d9 d10 d11 d12 d13 d14 d15 : Int) (d16 : List Int) (d17 d18 d19 d20 d21 d22 d23 d24 d25 d26 : Int) (d27 : List (ByteArray × Int)) (d28 : List Req) :
    ∀ (u k : Nat), p.2.length - k = u → k ≤ p.2.length → spyref2_NewTable.p3 p.2 p.2.length k n b6 d0 d1 d2 d3 d4 d5 d6 d7 d8 d9 d10 d11 d12 d13 d14 d15 d16 d17 d18 d19 d20 d21 d22 d23 d24 d25 d26 d27 d28 (cl.take k) = some (((d0, d1), (d2, d3, d4, d5), d6, d7, d8, (d9, d10, d11), (d12, d13, d14), d15, d16), ((d17, d18, d19, d20), (d21, d22, d23, d24), d25, d26), (d27, d28), cl) := by
  have hr := pk.reqs
  intro u
  induction u with
  | zero =>
    intro k hu hk
    rw [spyref2_NewTable.p3_eq, if_neg (by rw [dt]; omega), List.take_of_length_le (by have := dk.lc; omega)]
  | succ u ih =>
    intro k hu hk
    have hlt : k < p.2.length := by omega
    have hc : k < cl.length := by have := dk.lc; omega
    have e : cl.take k ++ [cl.getD k []] = cl.take (k + 1) := by
      rw [getD_nat _ _ hc, List.take_succ_eq_append_getElem hc]
    rw [spyref2_NewTable.p3_eq, if_pos (by rw [dt]; omega), if_pos (by omega), if_pos (by omega), toNat_nat, (dk.c k hlt).1, bind_some_, if_pos (by simp; omega), wi_nat (by omega), e]
    exact ih (k + 1) (by omega) (by omega)
theorem cloneN (l : List Int) (hl : l.length * 8 ≤ 140737488355328) : nilOr (.list true 3 (.int .i64)) l.isEmpty slices_Clone_int_int slices_Clone_int_int_1 (slices_Clone_int_int_2 l) = some l := by
  cases l with
  | nil => rw [slices_Clone_int_int_eq, slices_Clone_int_int_1_eq]; rfl
  | cons x l => rw [slices_Clone_int_int_2_eq, if_neg (by simp), if_pos (by simpa using hl)]; rfl
theorem cloneP {e : Nat} (l : List (ByteArray × Int)) (hl : l.length * 24 ≤ 140737488355328) : nilOr (.list true e (.prod .str (.int .i64))) l.isEmpty slices_Clone_api_Proposal slices_Clone_api_Proposal_1 (slices_Clone_api_Proposal_2 l) = some l := by
  cases l with
  | nil => rw [slices_Clone_api_Proposal_eq, slices_Clone_api_Proposal_1_eq]; rfl
  | cons x l => rw [slices_Clone_api_Proposal_2_eq, if_neg (by simp), if_pos (by simpa using hl)]; rfl
theorem cloneR {e : Nat} (l : List Req) (hl : l.length * 104 ≤ 140737488355328) : nilOr (.list true e (.prod (.int .i64) (.prod (.int .i64) (.prod (.prod (.int .i64) (.prod (.int .i64) (.int .i64))) (.prod (.int .i64) (.prod (.int .i64) (.prod (.int .i64) (.prod (.int .i64) (.prod (.int .i64) (.prod (.int .i64) (.prod (.int .i64) (.int .i64)))))))))))) l.isEmpty slices_Clone_api_Request slices_Clone_api_Request_1 (slices_Clone_api_Request_2 l) = some l := by
  cases l with
  | nil => rw [slices_Clone_api_Request_eq, slices_Clone_api_Request_1_eq]; rfl
  | cons x l => rw [slices_Clone_api_Request_2_eq, if_neg (by simp), if_pos (by simpa using hl)]; rfl
theorem getD_repl {α : Type} (k : Nat) (j : Nat) : (List.replicate k ([] : List α)).getD j [] = [] := by
  rw [List.getD_eq_getElem?_getD, List.getElem?_replicate]
  split <;> rfl
theorem desk_new {n : Night} {m : Mount_} {p : Progr} (hc : plan_CheckAll n m p = some 0) (hn : prop_CheckNight n = some 0) (ok : NightOk n) (pk : ProgOk p) : ∃ cl aim, DeskOk n p cl aim ∧ plan_NewDesk n m p = some ((n, m, p, cl, aim), 0) ∧ spyref2_NewTable n m p = some (n, m, p, cl) := by
  have hs := ok.slots
  have hr := pk.reqs
  have hp := pk.names
  have hcl := ok.cloud
  have c1 := cloneN n.2.2.2.2.2.2.2.2 (by omega)
  have c2 := fun e => cloneP (e := e) p.1 (by omega)
  have c3 := fun e => cloneR (e := e) p.2 (by omega)
  obtain ⟨cl, aim, e1, e2⟩ := desk_p8 hn ok pk (((0, 0), (0, 0, 0, 0), 0, 0, 0, (0, 0, 0), (0, 0, 0), 0, []), ((0, 0, 0, 0), (0, 0, 0, 0), 0, 0), ([], []), [], []) n.1.1 n.1.2 n.2.1.1 n.2.1.2.1 n.2.1.2.2.1 n.2.1.2.2.2 n.2.2.1 n.2.2.2.1 n.2.2.2.2.1 n.2.2.2.2.2.1.1 n.2.2.2.2.2.1.2.1 n.2.2.2.2.2.1.2.2 n.2.2.2.2.2.2.1.1 n.2.2.2.2.2.2.1.2.1 n.2.2.2.2.2.2.1.2.2 n.2.2.2.2.2.2.2.1 n.2.2.2.2.2.2.2.2 m.1.1 m.1.2.1 m.1.2.2.1 m.1.2.2.2 m.2.1.1 m.2.1.2.1 m.2.1.2.2.1 m.2.1.2.2.2 m.2.2.1 m.2.2.2 p.1 p.2 _ 0 (List.replicate p.2.length []) (List.replicate p.2.length []) rfl (by omega) (by simp) (by simp) (fun j h => absurd h (by omega)) (fun j h => absurd h (by omega)) (fun j _ => getD_repl _ _)
  have e3 := table_p3 pk e1 (((0, 0), (0, 0, 0, 0), 0, 0, 0, (0, 0, 0), (0, 0, 0), 0, []), ((0, 0, 0, 0), (0, 0, 0, 0), 0, 0), ([], []), []) n.1.1 n.1.2 n.2.1.1 n.2.1.2.1 n.2.1.2.2.1 n.2.1.2.2.2 n.2.2.1 n.2.2.2.1 n.2.2.2.2.1 n.2.2.2.2.2.1.1 n.2.2.2.2.2.1.2.1 n.2.2.2.2.2.1.2.2 n.2.2.2.2.2.2.1.1 n.2.2.2.2.2.2.1.2.1 n.2.2.2.2.2.2.1.2.2 n.2.2.2.2.2.2.2.1 n.2.2.2.2.2.2.2.2 m.1.1 m.1.2.1 m.1.2.2.1 m.1.2.2.2 m.2.1.1 m.2.1.2.1 m.2.1.2.2.1 m.2.1.2.2.2 m.2.2.1 m.2.2.2 p.1 p.2 _ 0 rfl (by omega)
  refine ⟨cl, aim, e1, ?_, ?_⟩
  · rw [plan_NewDesk_eq, hc, bind_some_, if_neg (by decide), c1, bind_some_, c2, bind_some_, c3, bind_some_, if_pos rfl, if_pos (by omega), if_pos (by omega), if_pos rfl, if_pos (by omega), if_pos (by omega)]
    exact e2
  · rw [spyref2_NewTable_eq]
    exact e3
/-! Where a number stands in a programme. -/
/-! States that fit; visits. -/
structure StOk (n : Night) (p : Progr) (s : State_) : Prop where
  slot : 0 ≤ s.1 ∧ s.1 ≤ n.2.2.2.2.1
  len : s.2.2.length = p.2.length
  vis : ∀ j, j < p.2.length → ((s.2.2.getD j []).length : Int) ≤ (p.2.getD j (0, 0, (0, 0, 0), 0, 0, 0, 0, 0, 0, 0, 0)).2.2.2.2.1
theorem check_p11 (p : Progr) (s : State_) (i : Int) (l10 : List Int) (T : List (List Int)) (t50 t51 : Int) (l : List Int) (hl : l.length ≤ 100) : ∀ (u k : Nat), l.length - k = u → k ≤ l.length → plan_CheckState.p11 i l10 T t50 t51 l l.length k p s = some 0 → plan_CheckState.p6 T t50 (IntKind.i64.wrap (t51 + 1)) p s = some 0 := by
  intro u
  induction u with
  | zero =>
    intro k hu hk h
    rw [plan_CheckState.p11_eq, if_neg (by rw [dt]; omega)] at h
    exact h
  | succ u ih =>
    intro k hu hk h
    rw [plan_CheckState.p11_eq, if_pos (by rw [dt]; omega), if_pos (by omega), if_pos (by omega), wi_nat (by omega)] at h
    have next := ih (k + 1) (by omega) (by omega)
    repeat' (split at h)
    all_goals first | (cases h; done) | exact next h
theorem check_p6 (p : Progr) (s : State_) (ok : ProgOk p) (hs : s.2.2.length = p.2.length) : ∀ (u k : Nat), s.2.2.length - k = u → k ≤ s.2.2.length → plan_CheckState.p6 s.2.2 s.2.2.length k p s = some 0 → ∀ j, k ≤ j → j < p.2.length → ((s.2.2.getD j []).length : Int) ≤ (p.2.getD j (0, 0, (0, 0, 0), 0, 0, 0, 0, 0, 0, 0, 0)).2.2.2.2.1 := by
  have hr := ok.reqs
  intro u
  induction u with
  | zero =>
    intro k hu hk h j h1 h2
    omega
  | succ u ih =>
    intro k hu hk h j h1 h2
    have hv := req_len ok (j := k) (by omega)
    rw [plan_CheckState.p6_eq, if_pos (by rw [dt]; omega), if_pos (by omega), if_pos (by omega), if_pos (by omega), if_pos (by omega), toNat_nat] at h
    obtain ⟨c, h⟩ := ite_1 (by omega) h
    rw [dt] at c
    have q := check_p11 p s k _ s.2.2 s.2.2.length k (s.2.2.getD k []) (by omega) _ 0 rfl (by omega) h
    rw [wi_nat (by omega)] at q
    by_cases e : j = k
    · subst e
      omega
    · exact ih (k + 1) (by omega) (by omega) q j (by omega) h2
theorem check_ok {n : Night} {m : Mount_} {p : Progr} {s : State_} (ok : ProgOk p) (h : plan_CheckState n m p s = some 0) : StOk n p s := by
  rw [plan_CheckState_eq, (in_within ..).1, (in_within ..).1] at h
  simp only [bind_some_] at h
  obtain ⟨a1, h⟩ := ite_0 (by omega) h
  obtain ⟨a2, h⟩ := ite_0 (by omega) h
  obtain ⟨_, h⟩ := ite_0 (by omega) h
  obtain ⟨_, h⟩ := ite_1 (by omega) h
  obtain ⟨a3, h⟩ := ite_1 (by omega) h
  rw [df] at a1 a2
  rw [ne_t] at a3
  have e : s.2.2.length = p.2.length := by omega
  exact ⟨by omega, e, fun j hj => check_p6 p s ok e _ 0 rfl (by omega) h j (by omega) hj⟩
theorem id_uniq {p : Progr} (ok : ProgOk p) {i j : Nat} (hi : i < p.2.length) (hj : j < p.2.length) (hne : i ≠ j) : (p.2.getD i (0, 0, (0, 0, 0), 0, 0, 0, 0, 0, 0, 0, 0)).1 ≠ (p.2.getD j (0, 0, (0, 0, 0), 0, 0, 0, 0, 0, 0, 0, 0)).1 := by
  rw [getD_nat _ _ hi, getD_nat _ _ hj]
  have key : ∀ a b, (ha : a < p.2.length) → (hb : b < p.2.length) → a < b → p.2[a].1 ≠ p.2[b].1 := by
    intro a b ha hb hab e
    refine (ok.at_ b hb).2.2.2 ?_
    rw [← e]
    exact List.mem_map.2 ⟨p.2[a], List.mem_take_iff_getElem.2 ⟨a, by omega, rfl⟩, rfl⟩
  rcases Nat.lt_or_gt_of_ne hne with q | q
  · exact key i j hi hj q
  · exact fun e => key j i hj hi q e.symm
abbrev Desk_ : Type := Night × Mount_ × Progr × List (List Int) × List (List (Int × Int))
theorem after_p3 {p : Progr} (pk : ProgOk p) (s : State_) (hl : s.2.2.length = p.2.length) (hv : ∀ j, j < p.2.length → (s.2.2.getD j []).length ≤ 4) (i : Nat) (c : Int × Int × (Int × Int) × Int × Int) (hc : c.1 = (i : Int)) (b : State_) (o0 o1 o2 : Int) : ∀ (u k : Nat), s.2.2.length - k = u → k ≤ s.2.2.length →
    spyref2_Table_After.p3 s.2.2 s.2.2.length k c b o0 o1 o2 ((s.2.2.set i (s.2.2.getD i [] ++ [c.2.1])).take k) = some (o0, (o1, o2), s.2.2.set i (s.2.2.getD i [] ++ [c.2.1])) := by
  have hr := pk.reqs
  intro u
  induction u with
  | zero =>
    intro k hu hk
    rw [spyref2_Table_After.p3_eq, if_neg (by rw [dt]; omega), List.take_of_length_le (by simp; omega)]
  | succ u ih =>
    intro k hu hk
    have hk' : k < s.2.2.length := by omega
    have h4 := hv k (by omega)
    have hlt : k < (s.2.2.set i (s.2.2.getD i [] ++ [c.2.1])).length := by simpa using hk'
    have e : ∀ x, (s.2.2.set i (s.2.2.getD i [] ++ [c.2.1])).getD k [] = x → (s.2.2.set i (s.2.2.getD i [] ++ [c.2.1])).take k ++ [x] = (s.2.2.set i (s.2.2.getD i [] ++ [c.2.1])).take (k + 1) := by
      intro x hx
      rw [← hx, getD_nat _ _ hlt, List.take_succ_eq_append_getElem hlt]
    rw [spyref2_Table_After.p3_eq, if_pos (by rw [dt]; omega), if_pos (by omega), if_pos (by omega), toNat_nat, if_pos (by omega), hc, wi_nat (by omega)]
    by_cases z : k = i
    · subst z
      rw [if_pos (by rw [eq_t]), if_pos (by omega), if_pos (by simp; omega), e _ (getD_set_same _ hk' _ _)]
      exact ih (k + 1) (by omega) (by omega)
    · rw [if_neg (by rw [eq_t]; omega), if_pos (by simp; omega), e _ (getD_set_ne _ (fun q => z q.symm) _ _)]
      exact ih (k + 1) (by omega) (by omega)
/-- A visit that is possible: the state after it. -/
theorem take_after {n : Night} {m : Mount_} {p : Progr} {cl : List (List Int)} {aim : List (List (Int × Int))} (ok : NightOk n) (pk : ProgOk p) {s : State_} (st : StOk n p s) (i : Nat) (hi : i < p.2.length) (a : Nat) (hs : (a : Int) + (p.2.getD i (0, 0, (0, 0, 0), 0, 0, 0, 0, 0, 0, 0, 0)).2.2.2.1 ≤ n.2.2.2.2.1) (hfull : ((s.2.2.getD i []).length : Int) < (p.2.getD i (0, 0, (0, 0, 0), 0, 0, 0, 0, 0, 0, 0, 0)).2.2.2.2.1) (f f' t : Int × Int) : ∃ x q, plan_Desk_take (n, m, p, cl, aim) s ((i : Int), (a : Int), f, t) = some (x, q) ∧ spyref2_Table_After (n, m, p, cl) s ((i : Int), (a : Int), f', t) = some q ∧ StOk n p q ∧ q.2.1 = t ∧ x = ((p.2.getD i (0, 0, (0, 0, 0), 0, 0, 0, 0, 0, 0, 0, 0)).1, IntKind.i64.wrap ((a : Int) - s.1), (a : Int), (p.2.getD i (0, 0, (0, 0, 0), 0, 0, 0, 0, 0, 0, 0, 0)).2.2.2.1) := by
  have hr := pk.reqs
  have h64 := ok.slots
  have hl := st.len
  have rl := req_len pk hi
  have hv : ∀ j, j < p.2.length → (s.2.2.getD j []).length ≤ 4 := fun j hj => by
    have := st.vis j hj
    have := req_len pk hj
    omega
  have h4 := hv i hi
  refine ⟨_, (IntKind.i64.wrap ((a : Int) + (p.2.getD i (0, 0, (0, 0, 0), 0, 0, 0, 0, 0, 0, 0, 0)).2.2.2.1), t, s.2.2.set i (s.2.2.getD i [] ++ [(a : Int)])), ?_, ?_, ⟨?_, by simpa using hl, fun j hj => ?_⟩, rfl, rfl⟩
  · rw [plan_Desk_take_eq]
    simp only
    rw [if_pos (by omega), if_pos (by omega), if_pos (by omega), if_pos (by omega), toNat_nat, if_pos (by omega), if_pos (by omega), if_pos (by omega), if_pos trivial]
  · rw [spyref2_Table_After_eq]
    simp only
    rw [if_pos (by omega), if_pos (by omega), toNat_nat]
    exact after_p3 pk s hl hv i ((i : Int), (a : Int), f', t) rfl _ _ _ _ _ 0 rfl (by omega)
  · simp only
    rw [wi (by omega) (by omega)]
    omega
  · simp only
    by_cases e : i = j
    · subst e
      rw [getD_set_same _ (by omega), List.length_append, List.length_singleton]
      omega
    · rw [getD_set_ne _ e]
      exact st.vis j hj
/-! States that are the same. -/
theorem clone_one (l : List Int) (hl : l.length * 8 ≤ 140737488355328) : nilOr (.list true 3 (.int .i64)) l.isEmpty slices_Clone_int_int slices_Clone_int_int_1 (slices_Clone_int_int_2 l) = some l := by
  unfold nilOr
  rw [slices_Clone_int_int_eq, slices_Clone_int_int_1_eq, slices_Clone_int_int_2_eq]
  cases l with
  | nil => rfl
  | cons x l =>
    rw [if_neg (by simp), if_neg (by simp), if_pos (by rw [Nat.zero_add]; exact hl)]
theorem clone_p3 (s b2 : State_) (h0 : s.2.2.length ≤ 9223372036854775806) (hs : ∀ x, x ∈ s.2.2 → x.length * 8 ≤ 140737488355328) : ∀ (u k : Nat) (acc : List (List Int)), s.2.2.length - k = u → k ≤ s.2.2.length → acc.length = s.2.2.length → (∀ j, j < k → acc[j]? = s.2.2[j]?) → plan_Clone.p3 s.2.2 s.2.2.length k s b2 acc = some s := by
  intro u
  induction u with
  | zero =>
    intro k acc hu hk ha hj
    rw [plan_Clone.p3_eq, if_neg (by rw [dt]; omega), fill_end ha (fun j h => hj j (by omega))]
  | succ u ih =>
    intro k acc hu hk ha hj
    have hlt : k < s.2.2.length := by omega
    rw [plan_Clone.p3_eq, if_pos (by rw [dt]; omega), if_pos (by omega), if_pos (by omega), toNat_nat, getD_nat _ _ hlt, clone_one _ (hs _ (List.getElem_mem ..)), bind_some_, if_pos (by omega), if_pos (by omega), wi_nat (by omega)]
    exact ih (k + 1) _ (by omega) (by omega) (by simp [ha]) (set_fill hlt ha hj)
theorem clone_same (s : State_) (h0 : s.2.2.length * 24 ≤ 140737488355328) (hs : ∀ x, x ∈ s.2.2 → x.length * 8 ≤ 140737488355328) : plan_Clone s = some s := by
  rw [plan_Clone_eq, if_pos rfl, if_pos (by omega), if_pos (by omega)]
  exact clone_p3 s _ (by omega) hs _ 0 (List.replicate s.2.2.length []) rfl (by omega) (by simp) (fun j h => absurd h (by omega))
/-! A state that fits a table. -/
theorem state_p11 (s : State_) (p : Progr) (t : Night × Mount_ × Progr × List (List Int)) (ht : t.2.2.1 = p) (i : Nat) (hi : i < p.2.length) (l : List Int) (hl : l.length ≤ 100) (next : (∃ r, plan_CheckState.p6 s.2.2 s.2.2.length ((i + 1 : Nat) : Int) p s = some r ∧ spyref2_Table_StateFault.p6 s.2.2 s.2.2.length ((i + 1 : Nat) : Int) t s = some r)) (hi2 : i < 9223372036854775806) : ∀ (u k : Nat) (last : Int), l.length - k = u → k ≤ l.length → (k = 0 → last = -1) → (∀ h : 0 < k, 0 ≤ last ∧ last = l.getD (k - 1) 0) → Same (fun _ => True) (plan_CheckState.p11 i l s.2.2 s.2.2.length i l l.length k p s) (spyref2_Table_StateFault.p12 i last s.2.2 s.2.2.length i l l.length k t s) := by
  intro u
  induction u with
  | zero =>
    intro k last hu hk h0 h1
    rw [plan_CheckState.p11_eq, spyref2_Table_StateFault.p12_eq, if_neg (by rw [dt]; omega), if_neg (by rw [dt]; omega), wi_nat (by omega)]
    obtain ⟨r, n1, n2⟩ := next
    exact ⟨r, n1, n2, trivial⟩
  | succ u ih =>
    intro k last hu hk h0 h1
    have hlt : k < l.length := by omega
    rw [plan_CheckState.p11_eq, spyref2_Table_StateFault.p12_eq]
    simp only [ht, if_pos (show decide ((k : Int) < (l.length : Int)) = true by rw [dt]; omega), if_pos (show (0 : Int) ≤ k by omega), if_pos (show (k : Int) < l.length by omega), if_pos (show (0 : Int) ≤ i by omega), if_pos (show (i : Int) < p.2.length by omega), toNat_nat, wi_nat (show k < 9223372036854775807 by omega)]
    generalize hW : IntKind.i64.wrap (s.1 - (p.2.getD i (0, 0, (0, 0, 0), 0, 0, 0, 0, 0, 0, 0, 0)).2.2.2.1) = W
    have nx : 0 ≤ l.getD k 0 → Same (fun _ => True) (plan_CheckState.p11 i l s.2.2 s.2.2.length i l l.length ((k + 1 : Nat) : Int) p s) (spyref2_Table_StateFault.p12 i (l.getD k 0) s.2.2 s.2.2.length i l l.length ((k + 1 : Nat) : Int) t s) := fun q => ih (k + 1) _ (by omega) (by omega) (fun z => by omega) (fun _ => ⟨q, by simp⟩)
    simp only [dt, df]
    by_cases k0 : k = 0
    · subst k0
      rw [h0 rfl]
      refine .ite (by omega) (fun a1 => ?_) (fun _ => .mk _ trivial)
      by_cases a2 : l.getD 0 0 > W
      · rw [if_neg (by omega), if_pos a2]
        exact .mk _ trivial
      · rw [if_pos (by omega), if_neg a2, if_neg (by omega)]
        exact nx (by omega)
    · obtain ⟨g1, g2⟩ := h1 (by omega)
      rw [wi (x := (k : Int) - 1) (by omega) (by omega), if_pos (show (k : Int) > 0 by omega), if_pos (show 0 ≤ (k : Int) - 1 by omega), if_pos (show (k : Int) - 1 < l.length by omega), show ((k : Int) - 1).toNat = k - 1 by omega, ← g2]
      by_cases a1 : l.getD k 0 < 0
      · rw [if_neg (by omega), if_neg (by omega)]
        exact .mk _ trivial
      · rw [if_pos a1]
        by_cases a2 : l.getD k 0 > W
        · rw [if_neg (by omega)]
          exact .right (fun _ => by rw [if_pos a2]; exact .mk _ trivial) (fun _ => .mk _ trivial)
        · rw [if_pos a2]
          by_cases a3 : l.getD k 0 ≤ last
          · rw [if_pos a3, if_neg (by omega)]
            exact .mk _ trivial
          · rw [if_neg a3, if_pos a3, if_neg a2]
            exact nx (by omega)
theorem request_vis {p : Progr} (ok : ProgOk p) (j : Nat) (h : j < p.2.length) : 1 ≤ p.2[j].2.2.2.1 ∧ p.2[j].2.2.2.1 ≤ 8 ∧ 1 ≤ p.2[j].2.2.2.2.1 ∧ p.2[j].2.2.2.2.1 ≤ 4 := request_len (ok.at_ j h).1
theorem state_p6 (s : State_) (p : Progr) (ok : ProgOk p) (t : Night × Mount_ × Progr × List (List Int)) (ht : t.2.2.1 = p) (hs : s.2.2.length = p.2.length) : ∀ (u k : Nat), s.2.2.length - k = u → k ≤ s.2.2.length → Same (fun _ => True) (plan_CheckState.p6 s.2.2 s.2.2.length k p s) (spyref2_Table_StateFault.p6 s.2.2 s.2.2.length k t s) := by
  have hr := ok.reqs
  intro u
  induction u with
  | zero =>
    intro k hu hk
    rw [plan_CheckState.p6_eq, spyref2_Table_StateFault.p6_eq, if_neg (by rw [dt]; omega), if_neg (by rw [dt]; omega)]
    exact .mk _ trivial
  | succ u ih =>
    intro k hu hk
    have hlt : k < s.2.2.length := by omega
    have hlt2 : k < p.2.length := by omega
    obtain ⟨r, n1, n2, _⟩ := ih (k + 1) (by omega) (by omega)
    rw [plan_CheckState.p6_eq, spyref2_Table_StateFault.p6_eq]
    simp only [ht, if_pos (show decide ((k : Int) < (s.2.2.length : Int)) = true by rw [dt]; omega), if_pos (show (0 : Int) ≤ k by omega), if_pos (show (k : Int) < s.2.2.length by omega), if_pos (show (k : Int) < p.2.length by omega), toNat_nat]
    refine .ite Iff.rfl (fun _ => .mk _ trivial) (fun q => ?_)
    rw [dt, getD_nat _ _ hlt2] at q
    have v := request_vis ok k hlt2
    exact state_p11 s p t ht k hlt2 _ (by omega) ⟨r, n1, n2⟩ (by omega) _ 0 (-1) rfl (by omega) (fun _ => rfl) (fun h => absurd h (by omega))
theorem state_same (n : Night) (m : Mount_) (p : Progr) (s : State_) (ok : ProgOk p) (cl : List (List Int)) : Same (fun _ => True) (plan_CheckState n m p s) (spyref2_Table_StateFault (n, m, p, cl) s) := by
  rw [plan_CheckState_eq, spyref2_Table_StateFault_eq, in_val, (in_within ..).1, (in_within ..).1, (in_within ..).2, (in_within ..).2]
  simp only [bind_some_]
  have rest : Same (fun _ => True) (if (!decide (m.1.1 ≤ s.2.1.1 ∧ s.2.1.1 ≤ m.1.2.1)) = false then (if (!decide (m.2.1.1 ≤ s.2.1.2 ∧ s.2.1.2 ≤ m.2.1.2.1)) = true then (some 4) else (if ((s.2.2.length : Int) != (p.2.length : Int)) = true then (some 3) else (plan_CheckState.p6 s.2.2 (s.2.2.length : Int) 0 p s))) else (some 4)) (if (!decide (m.1.1 ≤ s.2.1.1 ∧ s.2.1.1 ≤ m.1.2.1)) = false then (if (!decide (m.2.1.1 ≤ s.2.1.2 ∧ s.2.1.2 ≤ m.2.1.2.1)) = true then (some 4) else (if ((s.2.2.length : Int) != (p.2.length : Int)) = true then (some 3) else (spyref2_Table_StateFault.p6 s.2.2 (s.2.2.length : Int) 0 (n, m, p, cl) s))) else (some 4)) := by
    refine .ite Iff.rfl (fun _ => .ite Iff.rfl (fun _ => .mk _ trivial) (fun _ => .ite Iff.rfl (fun _ => .mk _ trivial) (fun q => ?_))) (fun _ => .mk _ trivial)
    rw [ne_t] at q
    exact state_p6 s p ok _ rfl (by omega) _ 0 rfl (by omega)
  by_cases c1 : s.1 < 0
  · rw [if_neg (show ¬ decide (s.1 < 0) = false by rw [df]; exact fun q => q c1), if_neg (show ¬ (!decide (0 ≤ s.1 ∧ s.1 ≤ n.2.2.2.2.1)) = false by rw [not_f, dt]; omega)]
    exact .mk _ trivial
  · rw [if_pos (show decide (s.1 < 0) = false by rw [df]; exact c1)]
    by_cases c2 : s.1 > n.2.2.2.2.1
    · rw [if_neg (show ¬ decide (s.1 > n.2.2.2.2.1) = false by rw [df]; exact fun q => q c2), if_neg (show ¬ (!decide (0 ≤ s.1 ∧ s.1 ≤ n.2.2.2.2.1)) = false by rw [not_f, dt]; omega)]
      exact .mk _ trivial
    · rw [if_pos (show decide (s.1 > n.2.2.2.2.1) = false by rw [df]; exact c2), if_pos (show (!decide (0 ≤ s.1 ∧ s.1 ≤ n.2.2.2.2.1)) = false by rw [not_f, dt]; omega)]
      exact rest
/-! What the proposals have used. -/
/-! What all planners ask first. -/
theorem plans_ok : spylaw2_plans = some true := callL_some.2 ⟨400, by kernel_rfl⟩
theorem all_parts {n : Night} {m : Mount_} {p : Progr} (h : plan_CheckAll n m p = some 0) : prop_CheckNight n = some 0 ∧ slew_CheckMount m = some 0 ∧ MtOk m := by
  obtain ⟨a, a2⟩ := (night_eq n).2
  have a1 := (night_eq n).1.trans a2
  obtain ⟨b, b1, _, b3⟩ := mount_all m
  rw [plan_CheckAll_eq, a1, bind_some_] at h
  obtain ⟨e1, h⟩ := ite_e h
  rw [b1, bind_some_] at h
  obtain ⟨e2, h⟩ := ite_e h
  subst e1 e2
  exact ⟨a1, b1, b3 rfl⟩
theorem st_small {n : Night} {p : Progr} (pk : ProgOk p) {s : State_} (st : StOk n p s) : s.2.2.length ≤ 16 ∧ ∀ x, x ∈ s.2.2 → x.length ≤ 4 := by
  have hr := pk.reqs
  have hl := st.len
  refine ⟨by omega, fun x hx => ?_⟩
  obtain ⟨j, hj, e⟩ := List.mem_iff_getElem.1 hx
  have a := st.vis j (by omega)
  have b := req_len pk (j := j) (by omega)
  rw [getD_nat _ _ hj, e] at a
  omega
theorem st_clone {n : Night} {p : Progr} (pk : ProgOk p) {s : State_} (st : StOk n p s) : plan_Clone s = some s := by
  obtain ⟨h1, h2⟩ := st_small pk st
  exact clone_same s (by omega) (fun x hx => by have := h2 x hx; omega)
theorem new_zero {n : Night} {m : Mount_} {p : Progr} {e : Int} (h : plan_CheckAll n m p = some e) (he : e ≠ 0) : plan_NewDesk n m p = some ((((0, 0), (0, 0, 0, 0), 0, 0, 0, (0, 0, 0), (0, 0, 0), 0, []), ((0, 0, 0, 0), (0, 0, 0, 0), 0, 0), ([], []), [], []), e) := by
  rw [plan_NewDesk_eq, h, bind_some_, if_pos (by rw [ne_t]; exact he)]
theorem desk_check {n : Night} {m : Mount_} {p : Progr} {cl : List (List Int)} {aim : List (List (Int × Int))} (ok : NightOk n) (s : State_) : plan_Desk_check (n, m, p, cl, aim) s = plan_CheckState n m p s := by
  have h := ok.slots
  rw [plan_Desk_check_eq]
  simp only
  rw [if_neg (by rw [eq_t]; omega), bind_id]
theorem desk_zero (s : State_) : plan_Desk_check (((0, 0), (0, 0, 0, 0), 0, 0, 0, (0, 0, 0), (0, 0, 0), 0, []), ((0, 0, 0, 0), (0, 0, 0, 0), 0, 0), ([], []), [], []) s = some 10 := by
  rw [plan_Desk_check_eq]
  rfl

end Go.Proofs.YtahedflmojodmaaGreat.Pure
