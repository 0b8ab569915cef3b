/- Desks, tables, visits, states. -/
import Derived.Test.YtdcbapdakaaeoaaGreatEA0
import Derived.Test.YtdcbapdakaaeoaaGreatEA1
import Derived.Test.YtdcbapdakaaeoaaGreatEA2
import Derived.Test.YtdcbapdakaaeoaaGreatEA3
import Derived.Test.YtdcbapdakaaeoaaGreatEA4
import Derived.Test.YtdcbapdakaaeoaaGreatEA5
import Derived.Test.YtdcbapdakaaeoaaGreatEA6
import Derived.Test.YtdcbapdakaaeoaaGreatEA7
import Derived.Test.YtdcbapdakaaeoaaGreatPl
import Derived.Test.YtdcbapdakaaeoaaGreatLemAA
import Derived.Test.YtdcbapdakaaeoaaGreatLemAB
namespace Go.Proofs.YtdcbapdakaaeoaaGreat.Pure
set_option linter.unusedVariables false
set_option linter.unusedSimpArgs false
open Go Go.RowKit Go.Proofs.YtdcbapdakaaeoaaGreat.Pv Go.Proofs.YtdcbapdakaaeoaaGreat.Pl Go.Proofs.YtdcbapdakaaeoaaGreat.EA

theorem closed_list (n : Night) (r : Req) (hc : (n.2.2.2.2.2.2.2.2.length : Int) = n.2.2.2.2.1) (hs : n.2.2.2.2.1 ≤ 64) : ∃ l : List Int, spyref2_AllClosed n r = some l ∧ (l.length : Int) = n.2.2.2.2.1 ∧ ∀ k : Nat, (h : k < l.length) → window_why n r k = some l[k] := by
  have h0 : 0 ≤ n.2.2.2.2.1 := by omega
  have main : ∀ (u : Nat) (k : Nat) (acc : List Int), n.2.2.2.2.1.toNat - k = u → k ≤ n.2.2.2.2.1.toNat → acc.length = k → (∀ j : Nat, (h : j < acc.length) → window_why n r j = some acc[j]) →
      ∃ l : List Int, spyref2_AllClosed.p3 (k : Int) n r acc = some l ∧ (l.length : Int) = n.2.2.2.2.1 ∧ ∀ j : Nat, (h : j < l.length) → window_why n r j = some l[j] := by
    intro u
    induction u with
    | zero =>
      intro k acc hu hk hl hw
      rw [spyref2_AllClosed.p3_eq, if_neg (by rw [dt]; omega)]
      exact ⟨acc, rfl, by omega, hw⟩
    | succ u ih =>
      intro k acc hu hk hl hw
      obtain ⟨c, c1, c2, _⟩ := closed_same n r k (by omega) (by omega)
      rw [spyref2_AllClosed.p3_eq, if_pos (by rw [dt]; omega), c2, bind_some_, if_pos (by omega), wi_nat (by omega)]
      refine ih (k + 1) (acc ++ [c]) (by omega) (by omega) (by simp [hl]) fun j hj => ?_
      by_cases e : j < acc.length
      · rw [List.getElem_append_left e]
        exact hw j e
      · have : j = k := by simp at hj; omega
        subst this
        rw [List.getElem_append_right (by omega), c1]
        simp [hl]
  rw [spyref2_AllClosed_eq]
  exact main _ 0 [] rfl (by omega) rfl (fun j h => by simp at h)
/-- A list that is filled place by place. -/
theorem set_fill {α : Type} {acc l : List α} {k : Nat} (hk : k < l.length) (hl : acc.length = l.length) (h : ∀ j, j < k → acc[j]? = l[j]?) : ∀ j, j < k + 1 → (acc.set k l[k])[j]? = l[j]? := by
  intro j hj
  rw [List.getElem?_set]
  by_cases e : k = j
  · subst e
    rw [if_pos rfl, if_pos (by omega), List.getElem?_eq_getElem hk]
  · rw [if_neg e]
    exact h j (by omega)
theorem fill_end {α : Type} {acc l : List α} (hl : acc.length = l.length) (h : ∀ j, j < l.length → acc[j]? = l[j]?) : acc = l := by
  apply List.ext_getElem?
  intro j
  by_cases e : j < l.length
  · exact h j e
  · rw [List.getElem?_eq_none (by omega), List.getElem?_eq_none (by omega)]
theorem slots_p6 (n : Night) (r : Req) (l : List Int) (hl : l.length ≤ 64) (hw : ∀ k : Nat, (h : k < l.length) → window_why n r k = some l[k]) : ∀ (u k : Nat) (acc : List Int), l.length - k = u → k ≤ l.length → acc.length = l.length → (∀ j, j < k → acc[j]? = l[j]?) → window_Slots.p6 (l.length : Int) k n r acc = some (l, 0) := by
  intro u
  induction u with
  | zero =>
    intro k acc hu hk ha hj
    rw [window_Slots.p6_eq, if_neg (by rw [dt]; omega), fill_end ha (fun j h => hj j (by omega))]
  | succ u ih =>
    intro k acc hu hk ha hj
    have hlt : k < l.length := by omega
    rw [window_Slots.p6_eq, if_pos (by rw [dt]; omega), hw k hlt, bind_some_, if_pos (by omega), if_pos (by omega), wi_nat (by omega), toNat_nat]
    exact ih (k + 1) _ (by omega) (by omega) (by simp [ha]) (set_fill hlt ha hj)
abbrev Axis_ : Type := Int × Int × Int × Int
abbrev Mount_ : Type := Axis_ × Axis_ × Int × Int
abbrev State_ : Type := Int × (Int × Int) × List (List Int)
theorem axis_same (a : Axis_) : Same (fun _ => True) (slew_CheckAxis a) (spyref2_AxisFault a) := by
  rw [slew_CheckAxis_eq, spyref2_AxisFault_eq, Int.mul_comm a.2.2.2 64]
  simp only [dt, df]
  repeat' (refine Same.ite Iff.rfl (fun _ => ?_) (fun _ => ?_))
  all_goals try exact .mk _ trivial
  by_cases c1 : a.2.2.2 > a.2.2.1
  · rw [if_neg (show ¬ ¬ a.2.2.2 > a.2.2.1 by omega)]
    refine .right (fun _ => ?_) (fun _ => .mk _ trivial)
    rw [if_neg (show ¬ ¬ a.2.2.2 > a.2.2.1 by omega)]
    exact .mk _ trivial
  · rw [if_pos (show ¬ a.2.2.2 > a.2.2.1 by omega), if_pos (show ¬ a.2.2.2 > a.2.2.1 by omega)]
    exact .ite Iff.rfl (fun _ => .ite Iff.rfl (fun _ => .mk _ trivial) (fun _ => .mk _ trivial)) (fun _ => .mk _ trivial)
theorem in_within (a : Axis_) (x : Int) : slew_In a x = some (decide (a.1 ≤ x ∧ x ≤ a.2.1)) ∧ spyref2_Within a x = some (decide (a.1 ≤ x ∧ x ≤ a.2.1)) := by
  rw [slew_In_eq, spyref2_Within_eq]
  simp only [dt, ge_iff_le]
  by_cases h : a.1 ≤ x
  · rw [if_pos h]
    simp [h]
  · rw [if_neg h]
    simp [h]
theorem mount_same (m : Mount_) : Same (fun _ => True) (slew_CheckMount m) (spyref2_MountFault m) := by
  rw [slew_CheckMount_eq, spyref2_MountFault_eq]
  refine (axis_same m.1).bind fun r _ => .ite Iff.rfl (fun _ => .mk _ trivial) (fun _ => (axis_same m.2.1).bind fun r _ => .ite Iff.rfl (fun _ => .mk _ trivial) (fun _ => ?_))
  rw [(in_within ..).1, (in_within ..).1, (in_within ..).2, (in_within ..).2]
  simp only [bind_some_]
  exact .ite Iff.rfl (fun _ => .ite Iff.rfl (fun _ => .mk _ trivial) (fun _ => .mk _ trivial)) (fun _ => .mk _ trivial)
theorem all_same (n : Night) (m : Mount_) (p : Progr) : Same (fun r => r = 0 → NightOk n ∧ ProgOk p) (plan_CheckAll n m p) (spyref2_AllFault n m p) := by
  obtain ⟨h1, e, h2⟩ := night_eq n
  rw [plan_CheckAll_eq, spyref2_AllFault_eq, h1, h2, bind_some_, bind_some_]
  refine .ite Iff.rfl (fun q => .mk _ (fun z => by rw [z] at q; exact absurd q (by decide))) (fun q => ?_)
  have he : e = 0 := Classical.byContradiction fun z => q (by rw [ne_t]; exact z)
  refine (mount_same m).bind fun r _ => .ite Iff.rfl (fun q => .mk _ (fun z => by rw [z] at q; exact absurd q (by decide))) (fun _ => ?_)
  rw [bind_id, bind_id]
  exact (prog_same p).imp fun r hr hz => ⟨night_ok (by rw [h2, he]), hr hz⟩
/-! The desk and the table. -/
theorem request_dir {r : Req} (h : spyref2_RequestFault r = some 0) : sphere_Check r.2.2.1 = some 0 := by
  obtain ⟨e, s1, d1⟩ := dir_check r.2.2.1
  rw [spyref2_RequestFault_eq, in_val, in_val, in_val, d1] at h
  simp only [bind_some_] at h
  obtain ⟨_, h⟩ := ite_1 (by omega) h
  obtain ⟨h1, _⟩ := ite_1 (by omega) h
  rw [not_t, df] at h1
  have : e = 0 := Classical.byContradiction h1
  rw [s1, this]
theorem slots_ok {n : Night} {r : Req} (hn : prop_CheckNight n = some 0) (ok : NightOk n) (hr : spyref2_RequestFault r = some 0) : ∃ l, window_Slots n r = some (l, 0) ∧ spyref2_AllClosed n r = some l ∧ (l.length : Int) = n.2.2.2.2.1 := by
  obtain ⟨f, h3, h4, _⟩ := request_same r
  have hf : f = 0 := by
    rw [hr] at h4
    exact (Option.some.inj h4).symm
  subst hf
  have h1 : window_both n r = some 0 := by
    rw [window_both_eq, hn, bind_some_, if_neg (by decide), h3]
    first | rfl | (rw [bind_some_])
  have hs := ok.slots
  obtain ⟨l, l1, l2, l3⟩ := closed_list n r ok.cloud hs.2
  have q := slots_p6 n r l (by omega) l3 _ 0 (List.replicate n.2.2.2.2.1.toNat (0 : Int)) rfl (by omega) (by simp; omega) (fun j h => absurd h (by omega))
  have el : ((List.replicate n.2.2.2.2.1.toNat (0 : Int)).length : Int) = (l.length : Int) := by simp; omega
  rw [show ((0 : Nat) : Int) = 0 from rfl] at q
  refine ⟨l, ?_, l1, l2⟩
  rw [window_Slots_eq, h1, bind_some_, if_neg (by decide), if_pos rfl, if_pos (by omega), if_pos (by omega), el, q]
theorem req_fault {p : Progr} (ok : ProgOk p) {j : Nat} (h : j < p.2.length) : spyref2_RequestFault (p.2.getD j (0, 0, (0, 0, 0), 0, 0, 0, 0, 0, 0, 0, 0)) = some 0 := by
  rw [getD_nat _ _ h]
  exact (ok.at_ j h).1
theorem req_len {p : Progr} (ok : ProgOk p) {j : Nat} (h : j < p.2.length) : 1 ≤ (p.2.getD j (0, 0, (0, 0, 0), 0, 0, 0, 0, 0, 0, 0, 0)).2.2.2.1 ∧ (p.2.getD j (0, 0, (0, 0, 0), 0, 0, 0, 0, 0, 0, 0, 0)).2.2.2.1 ≤ 8 ∧ 1 ≤ (p.2.getD j (0, 0, (0, 0, 0), 0, 0, 0, 0, 0, 0, 0, 0)).2.2.2.2.1 ∧ (p.2.getD j (0, 0, (0, 0, 0), 0, 0, 0, 0, 0, 0, 0, 0)).2.2.2.2.1 ≤ 4 := request_len (req_fault ok h)
structure DeskOk (n : Night) (p : Progr) (cl : List (List Int)) (aim : List (List (Int × Int))) : Prop where
  lc : cl.length = p.2.length
  la : aim.length = p.2.length
  c : ∀ j, j < p.2.length → spyref2_AllClosed n (p.2.getD j (0, 0, (0, 0, 0), 0, 0, 0, 0, 0, 0, 0, 0)) = some (cl.getD j []) ∧ ((cl.getD j []).length : Int) = n.2.2.2.2.1
  a : ∀ j, j < p.2.length → ((aim.getD j []).length : Int) = n.2.2.2.2.1 + 1 ∧ ∀ k, k < (aim.getD j []).length → slew_Aim n (p.2.getD j (0, 0, (0, 0, 0), 0, 0, 0, 0, 0, 0, 0, 0)).2.2.1 (k : Int) = some ((aim.getD j []).getD k (0, 0), 0)
theorem getD_set_same {α : Type} (l : List α) {i : Nat} (h : i < l.length) (x d : α) : (l.set i x).getD i d = x := by
  rw [List.getD_eq_getElem?_getD, List.getElem?_set, if_pos rfl, if_pos h]
  rfl
theorem getD_set_ne {α : Type} (l : List α) {i j : Nat} (h : i ≠ j) (x d : α) : (l.set i x).getD j d = l.getD j d := by
  rw [List.getD_eq_getElem?_getD, List.getElem?_set, if_neg h, List.getD_eq_getElem?_getD]
theorem getD_app {α : Type} (l : List α) (x d : α) {j : Nat} (h : j < l.length + 1) : (l ++ [x]).getD j d = if j = l.length then x else l.getD j d := by
  by_cases e : j = l.length
  · rw [if_pos e, e]
    simp
  · rw [if_neg e, List.getD_eq_getElem?_getD, List.getElem?_append_left (by omega), List.getD_eq_getElem?_getD]
theorem desk_p12 {n : Night} (hn : prop_CheckNight n = some 0) (ok : NightOk n) {r : Req} (hr : spyref2_RequestFault r = some 0) (T : List Req) (t49 : Int) (b6 : Night × Mount_ × Progr × List (List Int) × List (List (Int × Int))) (d0 d1 d2 d3 d4 d5 d6 d7 d8 d9 d10 d11 d12 d13 d14 d15 : Int) (d16 : List Int) (d17 d18 d19 d20 d21 d22 d23 d24 d25 d26 : Int) (d27 : List (ByteArray × Int)) (d28 : List Req) (sh : List (List Int)) (i : Nat) :
    ∀ (u k : Nat) (b : List (List (Int × Int))), n.2.2.2.2.1.toNat + 1 - k = u → k ≤ n.2.2.2.2.1.toNat + 1 → i < b.length → (b.getD i []).length = k → (∀ j, j < (b.getD i []).length → slew_Aim n r.2.2.1 (j : Int) = some ((b.getD i []).getD j (0, 0), 0)) →
    ∃ a : List (Int × Int), (a.length : Int) = n.2.2.2.2.1 + 1 ∧ (∀ j, j < a.length → slew_Aim n r.2.2.1 (j : Int) = some (a.getD j (0, 0), 0)) ∧
      plan_NewDesk.p12 i T t49 i (n.2.2.2.2.1 + 1) k n b6 d0 d1 d2 d3 d4 d5 d6 d7 d8 d9 d10 d11 d12 d13 d14 d15 d16 d17 d18 d19 d20 d21 d22 d23 d24 d25 d26 d27 d28 r sh b = plan_NewDesk.p8 T t49 (IntKind.i64.wrap ((i : Int) + 1)) n b6 d0 d1 d2 d3 d4 d5 d6 d7 d8 d9 d10 d11 d12 d13 d14 d15 d16 d17 d18 d19 d20 d21 d22 d23 d24 d25 d26 d27 d28 sh (b.set i a) := by
  have hs := ok.slots
  intro u
  induction u with
  | zero =>
    intro k b hu hk hi hl ha
    rw [plan_NewDesk.p12_eq, if_neg (by rw [dt]; omega)]
    refine ⟨b.getD i [], by omega, ha, ?_⟩
    rw [getD_nat _ _ hi, List.set_getElem_self]
  | succ u ih =>
    intro k b hu hk hi hl ha
    obtain ⟨a, a1, _, _⟩ := aim_def hn ok (request_dir hr) (k := (k : Int)) (by omega) (by omega)
    have hset : i < (b.set i (b.getD i [] ++ [a])).length := by simpa using hi
    obtain ⟨c, c1, c2, c3⟩ := ih (k + 1) (b.set i (b.getD i [] ++ [a])) (by omega) (by omega) hset (by rw [getD_set_same _ hi, List.length_append, List.length_singleton]; omega) (fun j hj => by
      rw [getD_set_same _ hi] at hj ⊢
      rw [List.length_append, List.length_singleton] at hj
      rw [getD_app _ _ _ hj]
      by_cases e : j = (b.getD i []).length
      · rw [if_pos e, e, hl]
        exact a1
      · rw [if_neg e]
        exact ha j (by omega))
    refine ⟨c, c1, c2, ?_⟩
    rw [plan_NewDesk.p12_eq, if_pos (by rw [dt]; omega), a1, bind_some_, if_pos (by omega), if_pos (by omega), toNat_nat, if_pos (by omega), if_pos (by omega), if_pos (by omega), if_pos rfl, wi_nat (by omega), c3, List.set_set]
theorem desk_p8 {n : Night} (hn : prop_CheckNight n = some 0) (ok : NightOk n) {p : Progr} (pk : ProgOk p) (b6 : Night × Mount_ × Progr × List (List Int) × List (List (Int × Int))) (d0 d1 d2 d3 d4 d5 d6 d7 d8 d9 d10 d11 d12 d13 d14 d15 : Int) (d16 : List Int) (d17 d18 d19 d20 d21 d22 d23 d24 d25 d26 : Int) (d27 : List (ByteArray × Int)) (d28 : List Req) :
    ∀ (u k : Nat) (sh : List (List Int)) (b : List (List (Int × Int))), p.2.length - k = u → k ≤ p.2.length → sh.length = p.2.length → b.length = p.2.length →
      (∀ j, j < k → spyref2_AllClosed n (p.2.getD j (0, 0, (0, 0, 0), 0, 0, 0, 0, 0, 0, 0, 0)) = some (sh.getD j []) ∧ ((sh.getD j []).length : Int) = n.2.2.2.2.1) →
      (∀ j, j < k → ((b.getD j []).length : Int) = n.2.2.2.2.1 + 1 ∧ ∀ i, i < (b.getD j []).length → slew_Aim n (p.2.getD j (0, 0, (0, 0, 0), 0, 0, 0, 0, 0, 0, 0, 0)).2.2.1 (i : Int) = some ((b.getD j []).getD i (0, 0), 0)) →
      (∀ j, k ≤ j → b.getD j [] = []) → ∃ cl aim, DeskOk n p cl aim ∧ plan_NewDesk.p8 p.2 p.2.length k n b6 d0 d1 d2 d3 d4 d5 d6 d7 d8 d9 d10 d11 d12 d13 d14 d15 d16 d17 d18 d19 d20 d21 d22 d23 d24 d25 d26 d27 d28 sh b = some ((((d0, d1), (d2, d3, d4, d5), d6, d7, d8, (d9, d10, d11), (d12, d13, d14), d15, d16), ((d17, d18, d19, d20), (d21, d22, d23, d24), d25, d26), (d27, d28), cl, aim), 0) := by
  have hs := ok.slots
  have hr := pk.reqs
  intro u
  induction u with
  | zero =>
    intro k sh b hu hk h1 h2 h3 h4 h5
    rw [plan_NewDesk.p8_eq, if_neg (by rw [dt]; omega)]
    exact ⟨sh, b, ⟨h1, h2, fun j hj => h3 j (by omega), fun j hj => h4 j (by omega)⟩, rfl⟩
  | succ u ih =>
    intro k sh b hu hk h1 h2 h3 h4 h5
    have hlt : k < p.2.length := by omega
    obtain ⟨l, l1, l2, l3⟩ := slots_ok hn ok (req_fault pk hlt)
    obtain ⟨a, a1, a2, a3⟩ := desk_p12 hn ok (req_fault pk hlt) p.2 p.2.length b6 d0 d1 d2 d3 d4 d5 d6 d7 d8 d9 d10 d11 d12 d13 d14 d15 d16 d17 d18 d19 d20 d21 d22 d23 d24 d25 d26 d27 d28 (sh.set k l) k _ 0 b rfl (by omega) (by omega) (by rw [h5 k (Nat.le_refl _)]; rfl) (fun j hj => by rw [h5 k (Nat.le_refl _)] at hj; simp at hj)
    obtain ⟨cl, aim, e1, e2⟩ := ih (k + 1) (sh.set k l) (b.set k a) (by omega) (by omega) (by simpa using h1) (by simpa using h2) (fun j hj => by
      by_cases e : k = j
      · subst e
        rw [getD_set_same _ (by omega)]
        exact ⟨l2, l3⟩
      · rw [getD_set_ne _ e]
        exact h3 j (by omega)) (fun j hj => by
      by_cases e : k = j
      · subst e
        rw [getD_set_same _ (by omega)]
        exact ⟨a1, a2⟩
      · rw [getD_set_ne _ e]
        exact h4 j (by omega)) (fun j hj => by rw [getD_set_ne _ (by omega)]; exact h5 j (by omega))
    refine ⟨cl, aim, e1, ?_⟩
    rw [show ((0 : Nat) : Int) = 0 from rfl, wi_nat (by omega)] at a3
    rw [plan_NewDesk.p8_eq, if_pos (by rw [dt]; omega), if_pos (by omega), if_pos (by omega), toNat_nat, l1, bind_some_, if_pos (by omega), if_pos (by omega), wi (x := n.2.2.2.2.1 + 1) (by omega) (by omega), a3, e2]
theorem table_p3 {n : Night} {p : Progr} (pk : ProgOk p) {cl : List (List Int)} {aim : List (List (Int × Int))} (dk : DeskOk n p cl aim) (b6 : Night × Mount_ × Progr × List (List Int)) (d0 d1 d2 d3 d4 d5 d6 d7 d8 d9 d10 d11 d12 d13 d14 d15 : Int) (d16 : List Int) (d17 d18 d19 d20 d21 d22 d23 d24 d25 d26 : Int) (d27 : List (ByteArray × Int)) (d28 : List Req) :
    ∀ (u k : Nat), p.2.length - k = u → k ≤ p.2.length → spyref2_NewTable.p3 p.2 p.2.length k n b6 d0 d1 d2 d3 d4 d5 d6 d7 d8 d9 d10 d11 d12 d13 d14 d15 d16 d17 d18 d19 d20 d21 d22 d23 d24 d25 d26 d27 d28 (cl.take k) = some (((d0, d1), (d2, d3, d4, d5), d6, d7, d8, (d9, d10, d11), (d12, d13, d14), d15, d16), ((d17, d18, d19, d20), (d21, d22, d23, d24), d25, d26), (d27, d28), cl) := by
  have hr := pk.reqs
  intro u
  induction u with
  | zero =>
    intro k hu hk
    rw [spyref2_NewTable.p3_eq, if_neg (by rw [dt]; omega), List.take_of_length_le (by have := dk.lc; omega)]
  | succ u ih =>
    intro k hu hk
    have hlt : k < p.2.length := by omega
    have hc : k < cl.length := by have := dk.lc; omega
    have e : cl.take k ++ [cl.getD k []] = cl.take (k + 1) := by
      rw [getD_nat _ _ hc, List.take_succ_eq_append_getElem hc]
    rw [spyref2_NewTable.p3_eq, if_pos (by rw [dt]; omega), if_pos (by omega), if_pos (by omega), toNat_nat, (dk.c k hlt).1, bind_some_, if_pos (by simp; omega), wi_nat (by omega), e]
    exact ih (k + 1) (by omega) (by omega)
theorem cloneN (l : List Int) (hl : l.length * 8 ≤ 140737488355328) : nilOr (.list true 3 (.int .i64)) l.isEmpty slices_Clone_int_int slices_Clone_int_int_1 (slices_Clone_int_int_2 l) = some l := by
  cases l with
  | nil => rw [slices_Clone_int_int_eq, slices_Clone_int_int_1_eq]; rfl
  | cons x l => rw [slices_Clone_int_int_2_eq, if_neg (by simp), if_pos (by simpa using hl)]; rfl
theorem cloneP {e : Nat} (l : List (ByteArray × Int)) (hl : l.length * 24 ≤ 140737488355328) : nilOr (.list true e (.prod .str (.int .i64))) l.isEmpty slices_Clone_api_Proposal slices_Clone_api_Proposal_1 (slices_Clone_api_Proposal_2 l) = some l := by
  cases l with
  | nil => rw [slices_Clone_api_Proposal_eq, slices_Clone_api_Proposal_1_eq]; rfl
  | cons x l => rw [slices_Clone_api_Proposal_2_eq, if_neg (by simp), if_pos (by simpa using hl)]; rfl
theorem cloneR {e : Nat} (l : List Req) (hl : l.length * 104 ≤ 140737488355328) : nilOr (.list true e (.prod (.int .i64) (.prod (.int .i64) (.prod (.prod (.int .i64) (.prod (.int .i64) (.int .i64))) (.prod (.int .i64) (.prod (.int .i64) (.prod (.int .i64) (.prod (.int .i64) (.prod (.int .i64) (.prod (.int .i64) (.prod (.int .i64) (.int .i64)))))))))))) l.isEmpty slices_Clone_api_Request slices_Clone_api_Request_1 (slices_Clone_api_Request_2 l) = some l := by
  cases l with
  | nil => rw [slices_Clone_api_Request_eq, slices_Clone_api_Request_1_eq]; rfl
  | cons x l => rw [slices_Clone_api_Request_2_eq, if_neg (by simp), if_pos (by simpa using hl)]; rfl
theorem getD_repl {α : Type} (k : Nat) (j : Nat) : (List.replicate k ([] : List α)).getD j [] = [] := by
  rw [List.getD_eq_getElem?_getD, List.getElem?_replicate]
  split <;> rfl
theorem desk_new {n : Night} {m : Mount_} {p : Progr} (hc : plan_CheckAll n m p = some 0) (hn : prop_CheckNight n = some 0) (ok : NightOk n) (pk : ProgOk p) : ∃ cl aim, DeskOk n p cl aim ∧ plan_NewDesk n m p = some ((n, m, p, cl, aim), 0) ∧ spyref2_NewTable n m p = some (n, m, p, cl) := by
  have hs := ok.slots
  have hr := pk.reqs
  have hp := pk.names
  have hcl := ok.cloud
  have c1 := cloneN n.2.2.2.2.2.2.2.2 (by omega)
  have c2 := fun e => cloneP (e := e) p.1 (by omega)
  have c3 := fun e => cloneR (e := e) p.2 (by omega)
  obtain ⟨cl, aim, e1, e2⟩ := desk_p8 hn ok pk (((0, 0), (0, 0, 0, 0), 0, 0, 0, (0, 0, 0), (0, 0, 0), 0, []), ((0, 0, 0, 0), (0, 0, 0, 0), 0, 0), ([], []), [], []) n.1.1 n.1.2 n.2.1.1 n.2.1.2.1 n.2.1.2.2.1 n.2.1.2.2.2 n.2.2.1 n.2.2.2.1 n.2.2.2.2.1 n.2.2.2.2.2.1.1 n.2.2.2.2.2.1.2.1 n.2.2.2.2.2.1.2.2 n.2.2.2.2.2.2.1.1 n.2.2.2.2.2.2.1.2.1 n.2.2.2.2.2.2.1.2.2 n.2.2.2.2.2.2.2.1 n.2.2.2.2.2.2.2.2 m.1.1 m.1.2.1 m.1.2.2.1 m.1.2.2.2 m.2.1.1 m.2.1.2.1 m.2.1.2.2.1 m.2.1.2.2.2 m.2.2.1 m.2.2.2 p.1 p.2 _ 0 (List.replicate p.2.length []) (List.replicate p.2.length []) rfl (by omega) (by simp) (by simp) (fun j h => absurd h (by omega)) (fun j h => absurd h (by omega)) (fun j _ => getD_repl _ _)
  have e3 := table_p3 pk e1 (((0, 0), (0, 0, 0, 0), 0, 0, 0, (0, 0, 0), (0, 0, 0), 0, []), ((0, 0, 0, 0), (0, 0, 0, 0), 0, 0), ([], []), []) n.1.1 n.1.2 n.2.1.1 n.2.1.2.1 n.2.1.2.2.1 n.2.1.2.2.2 n.2.2.1 n.2.2.2.1 n.2.2.2.2.1 n.2.2.2.2.2.1.1 n.2.2.2.2.2.1.2.1 n.2.2.2.2.2.1.2.2 n.2.2.2.2.2.2.1.1 n.2.2.2.2.2.2.1.2.1 n.2.2.2.2.2.2.1.2.2 n.2.2.2.2.2.2.2.1 n.2.2.2.2.2.2.2.2 m.1.1 m.1.2.1 m.1.2.2.1 m.1.2.2.2 m.2.1.1 m.2.1.2.1 m.2.1.2.2.1 m.2.1.2.2.2 m.2.2.1 m.2.2.2 p.1 p.2 _ 0 rfl (by omega)
  refine ⟨cl, aim, e1, ?_, ?_⟩
  · rw [plan_NewDesk_eq, hc, bind_some_, if_neg (by decide), c1, bind_some_, c2, bind_some_, c3, bind_some_, if_pos rfl, if_pos (by omega), if_pos (by omega), if_pos rfl, if_pos (by omega), if_pos (by omega)]
    exact e2
  · rw [spyref2_NewTable_eq]
    exact e3
/-! Where a number stands in a programme. -/
theorem index_run (l : List Req) (id : Int) (hl : l.length ≤ 16) : ∀ (u k : Nat), l.length - k = u → k ≤ l.length → (spyref2_IndexOf.p2 id l l.length k = some (-1) ∧ id ∉ (l.drop k).map (·.1)) ∨ ∃ j, ∃ h : j < l.length, k ≤ j ∧ spyref2_IndexOf.p2 id l l.length k = some (j : Int) ∧ l[j].1 = id := by
  intro u
  induction u with
  | zero =>
    intro k h hk
    rw [spyref2_IndexOf.p2_eq, if_neg (by rw [dt]; omega), List.drop_eq_nil_of_le (by omega)]
    exact .inl ⟨rfl, by simp⟩
  | succ u ih =>
    intro k h hk
    have hlt : k < l.length := by omega
    rw [spyref2_IndexOf.p2_eq, if_pos (by rw [dt]; omega), if_pos (by omega), if_pos (by omega), toNat_nat, getD_nat _ _ hlt, wi_nat (by omega), List.drop_eq_getElem_cons hlt]
    by_cases c : l[k].1 = id
    · rw [if_pos (by rw [eq_t]; exact c)]
      exact .inr ⟨k, hlt, by omega, rfl, c⟩
    · rw [if_neg (by rw [eq_t]; exact c)]
      rcases ih (k + 1) (by omega) (by omega) with ⟨h1, h2⟩ | ⟨j, hj, h0, h1, h2⟩
      · refine .inl ⟨h1, fun q => ?_⟩
        rw [List.map_cons] at q
        exact (List.mem_cons.1 q).elim (fun z => c z.symm) h2
      · exact .inr ⟨j, hj, by omega, h1, h2⟩
theorem index_of (p : Progr) (id : Int) (hl : p.2.length ≤ 16) : (spyref2_IndexOf p id = some (-1) ∧ id ∉ p.2.map (·.1)) ∨ ∃ j, ∃ h : j < p.2.length, spyref2_IndexOf p id = some (j : Int) ∧ p.2[j].1 = id := by
  rw [spyref2_IndexOf_eq]
  rcases index_run p.2 id hl _ 0 rfl (by omega) with ⟨h1, h2⟩ | ⟨j, hj, _, h1, h2⟩
  · exact .inl ⟨h1, by simpa using h2⟩
  · exact .inr ⟨j, hj, h1, h2⟩
/-! States that fit; visits. -/
structure StOk (n : Night) (p : Progr) (s : State_) : Prop where
  slot : 0 ≤ s.1 ∧ s.1 ≤ n.2.2.2.2.1
  len : s.2.2.length = p.2.length
  vis : ∀ j, j < p.2.length → ((s.2.2.getD j []).length : Int) ≤ (p.2.getD j (0, 0, (0, 0, 0), 0, 0, 0, 0, 0, 0, 0, 0)).2.2.2.2.1
theorem check_p11 (p : Progr) (s : State_) (i : Int) (l10 : List Int) (T : List (List Int)) (t50 t51 : Int) (l : List Int) (hl : l.length ≤ 100) : ∀ (u k : Nat), l.length - k = u → k ≤ l.length → plan_CheckState.p11 i l10 T t50 t51 l l.length k p s = some 0 → plan_CheckState.p6 T t50 (IntKind.i64.wrap (t51 + 1)) p s = some 0 := by
  intro u
  induction u with
  | zero =>
    intro k hu hk h
    rw [plan_CheckState.p11_eq, if_neg (by rw [dt]; omega)] at h
    exact h
  | succ u ih =>
    intro k hu hk h
    rw [plan_CheckState.p11_eq, if_pos (by rw [dt]; omega), if_pos (by omega), if_pos (by omega), wi_nat (by omega)] at h
    have next := ih (k + 1) (by omega) (by omega)
    repeat' (split at h)
    all_goals first | (cases h; done) | exact next h
theorem check_p6 (p : Progr) (s : State_) (ok : ProgOk p) (hs : s.2.2.length = p.2.length) : ∀ (u k : Nat), s.2.2.length - k = u → k ≤ s.2.2.length → plan_CheckState.p6 s.2.2 s.2.2.length k p s = some 0 → ∀ j, k ≤ j → j < p.2.length → ((s.2.2.getD j []).length : Int) ≤ (p.2.getD j (0, 0, (0, 0, 0), 0, 0, 0, 0, 0, 0, 0, 0)).2.2.2.2.1 := by
  have hr := ok.reqs
  intro u
  induction u with
  | zero =>
    intro k hu hk h j h1 h2
    omega
  | succ u ih =>
    intro k hu hk h j h1 h2
    have hv := req_len ok (j := k) (by omega)
    rw [plan_CheckState.p6_eq, if_pos (by rw [dt]; omega), if_pos (by omega), if_pos (by omega), if_pos (by omega), if_pos (by omega), toNat_nat] at h
    obtain ⟨c, h⟩ := ite_1 (by omega) h
    rw [dt] at c
    have q := check_p11 p s k _ s.2.2 s.2.2.length k (s.2.2.getD k []) (by omega) _ 0 rfl (by omega) h
    rw [wi_nat (by omega)] at q
    by_cases e : j = k
    · subst e
      omega
    · exact ih (k + 1) (by omega) (by omega) q j (by omega) h2
theorem check_ok {n : Night} {m : Mount_} {p : Progr} {s : State_} (ok : ProgOk p) (h : plan_CheckState n m p s = some 0) : StOk n p s := by
  rw [plan_CheckState_eq, (in_within ..).1, (in_within ..).1] at h
  simp only [bind_some_] at h
  obtain ⟨a1, h⟩ := ite_0 (by omega) h
  obtain ⟨a2, h⟩ := ite_0 (by omega) h
  obtain ⟨_, h⟩ := ite_0 (by omega) h
  obtain ⟨_, h⟩ := ite_1 (by omega) h
  obtain ⟨a3, h⟩ := ite_1 (by omega) h
  rw [df] at a1 a2
  rw [ne_t] at a3
  have e : s.2.2.length = p.2.length := by omega
  exact ⟨by omega, e, fun j hj => check_p6 p s ok e _ 0 rfl (by omega) h j (by omega) hj⟩
theorem id_uniq {p : Progr} (ok : ProgOk p) {i j : Nat} (hi : i < p.2.length) (hj : j < p.2.length) (hne : i ≠ j) : (p.2.getD i (0, 0, (0, 0, 0), 0, 0, 0, 0, 0, 0, 0, 0)).1 ≠ (p.2.getD j (0, 0, (0, 0, 0), 0, 0, 0, 0, 0, 0, 0, 0)).1 := by
  rw [getD_nat _ _ hi, getD_nat _ _ hj]
  have key : ∀ a b, (ha : a < p.2.length) → (hb : b < p.2.length) → a < b → p.2[a].1 ≠ p.2[b].1 := by
    intro a b ha hb hab e
    refine (ok.at_ b hb).2.2.2 ?_
    rw [← e]
    exact List.mem_map.2 ⟨p.2[a], List.mem_take_iff_getElem.2 ⟨a, by omega, rfl⟩, rfl⟩
  rcases Nat.lt_or_gt_of_ne hne with q | q
  · exact key i j hi hj q
  · exact fun e => key j i hj hi q e.symm
abbrev Desk_ : Type := Night × Mount_ × Progr × List (List Int) × List (List (Int × Int))
theorem find_none (p : Progr) (hl : p.2.length ≤ 16) (d : Desk_) (s : State_) (v : Int × Int × Int × Int) (b : Int × Int × (Int × Int) × Int × Int) (i : Int) : ∀ (u k : Nat), p.2.length - k = u → k ≤ p.2.length → (∀ j, k ≤ j → j < p.2.length → (p.2.getD j (0, 0, (0, 0, 0), 0, 0, 0, 0, 0, 0, 0, 0)).1 ≠ v.1) → plan_Desk_visit.p3 i p.2 p.2.length k d s v b = plan_Desk_visit.p3 i p.2 p.2.length p.2.length d s v b := by
  intro u
  induction u with
  | zero =>
    intro k hu hk h
    rw [show k = p.2.length by omega]
  | succ u ih =>
    intro k hu hk h
    rw [plan_Desk_visit.p3_eq, if_pos (by rw [dt]; omega), if_pos (by omega), if_pos (by omega), toNat_nat, if_neg (by rw [eq_t]; exact h k (Nat.le_refl _) (by omega)), wi_nat (by omega)]
    exact ih (k + 1) (by omega) (by omega) fun j h1 h2 => h j (by omega) h2
theorem find_at (p : Progr) (ok : ProgOk p) (d : Desk_) (s : State_) (v : Int × Int × Int × Int) (b : Int × Int × (Int × Int) × Int × Int) (j : Nat) (hj : j < p.2.length) (hv : (p.2.getD j (0, 0, (0, 0, 0), 0, 0, 0, 0, 0, 0, 0, 0)).1 = v.1) : ∀ (u k : Nat) (i : Int), j - k = u → k ≤ j → plan_Desk_visit.p3 i p.2 p.2.length k d s v b = plan_Desk_visit.p3 j p.2 p.2.length p.2.length d s v b := by
  have hl := ok.reqs
  intro u
  induction u with
  | zero =>
    intro k i hu hk
    obtain rfl : k = j := by omega
    rw [plan_Desk_visit.p3_eq, if_pos (by rw [dt]; omega), if_pos (by omega), if_pos (by omega), toNat_nat, if_pos (by rw [eq_t]; exact hv), wi_nat (by omega)]
    exact find_none p hl d s v b k _ (k + 1) rfl (by omega) fun i h1 h2 => by rw [← hv]; exact id_uniq ok h2 hj (by omega)
  | succ u ih =>
    intro k i hu hk
    rw [plan_Desk_visit.p3_eq, if_pos (by rw [dt]; omega), if_pos (by omega), if_pos (by omega), toNat_nat, if_neg (by rw [eq_t, ← hv]; exact id_uniq ok (by omega) hj (by omega)), wi_nat (by omega)]
    exact ih (k + 1) i (by omega) (by omega)
/-- The slots of a visit, both ways. -/
theorem open_run {n : Night} {m : Mount_} {p : Progr} {cl : List (List Int)} {aim : List (List (Int × Int))} (dk : DeskOk n p cl aim) (s : State_) (v : Int × Int × Int × Int) (b : Int × Int × (Int × Int) × Int × Int) (r : Req) (i : Nat) (hi : i < p.2.length) (a : Nat) (ha : v.2.2.1 = (a : Int)) (L : Nat) (hL : v.2.2.2 = (L : Int)) (hs : (a : Int) + L ≤ n.2.2.2.2.1) (h64 : n.2.2.2.2.1 ≤ 64) : ∀ (u k : Nat), L - k = u → k ≤ L →
    (spyref2_Table_AllOpen.p2 i a L k (n, m, p, cl) = some false ∧ plan_Desk_visit.p22 i ((a + k : Nat) : Int) (n, m, p, cl, aim) s v b r = some ((0, 0, (0, 0), 0, 0), 16)) ∨
    (spyref2_Table_AllOpen.p2 i a L k (n, m, p, cl) = some true ∧ plan_Desk_visit.p22 i ((a + k : Nat) : Int) (n, m, p, cl, aim) s v b r = plan_Desk_visit.p22 i ((a + L : Nat) : Int) (n, m, p, cl, aim) s v b r) := by
  have hc := (dk.c i hi).2
  have hlc := dk.lc
  intro u
  induction u with
  | zero =>
    intro k hu hk
    obtain rfl : k = L := by omega
    refine .inr ⟨?_, rfl⟩
    rw [spyref2_Table_AllOpen.p2_eq, if_neg (by rw [dt]; omega)]
  | succ u ih =>
    intro k hu hk
    have e1 : spyref2_Table_AllOpen.p2 i a L k (n, m, p, cl) = if ((cl.getD i []).getD (a + k) 0 != 0) = true then some false else spyref2_Table_AllOpen.p2 i a L ((k + 1 : Nat) : Int) (n, m, p, cl) := by
      rw [spyref2_Table_AllOpen.p2_eq]
      simp only
      rw [if_pos (by rw [dt]; omega), if_pos (by omega), if_pos (by omega), wi (x := (a : Int) + k) (by omega) (by omega), if_pos (by omega), toNat_nat, if_pos (by omega), wi_nat (by omega), show ((a : Int) + (k : Int)).toNat = a + k by omega]
    have e2 : plan_Desk_visit.p22 i ((a + k : Nat) : Int) (n, m, p, cl, aim) s v b r = if ((cl.getD i []).getD (a + k) 0 != 0) = true then some ((0, 0, (0, 0), 0, 0), 16) else plan_Desk_visit.p22 i ((a + (k + 1) : Nat) : Int) (n, m, p, cl, aim) s v b r := by
      rw [plan_Desk_visit.p22_eq]
      simp only
      rw [ha, hL, wi (x := (a : Int) + L) (by omega) (by omega), if_pos (by rw [dt]; omega), if_pos (by omega), if_pos (by omega), if_pos (by omega), toNat_nat, if_pos (by omega), toNat_nat, wi_nat (by omega)]
      rfl
    rw [e1, e2]
    by_cases z : ((cl.getD i []).getD (a + k) 0 != 0) = true
    · rw [if_pos z, if_pos z]
      exact .inl ⟨rfl, rfl⟩
    · rw [if_neg z, if_neg z]
      exact ih (k + 1) (by omega) (by omega)
theorem after_p3 {p : Progr} (pk : ProgOk p) (s : State_) (hl : s.2.2.length = p.2.length) (hv : ∀ j, j < p.2.length → (s.2.2.getD j []).length ≤ 4) (i : Nat) (c : Int × Int × (Int × Int) × Int × Int) (hc : c.1 = (i : Int)) (b : State_) (o0 o1 o2 : Int) : ∀ (u k : Nat), s.2.2.length - k = u → k ≤ s.2.2.length →
    spyref2_Table_After.p3 s.2.2 s.2.2.length k c b o0 o1 o2 ((s.2.2.set i (s.2.2.getD i [] ++ [c.2.1])).take k) = some (o0, (o1, o2), s.2.2.set i (s.2.2.getD i [] ++ [c.2.1])) := by
  have hr := pk.reqs
  intro u
  induction u with
  | zero =>
    intro k hu hk
    rw [spyref2_Table_After.p3_eq, if_neg (by rw [dt]; omega), List.take_of_length_le (by simp; omega)]
  | succ u ih =>
    intro k hu hk
    have hk' : k < s.2.2.length := by omega
    have h4 := hv k (by omega)
    have hlt : k < (s.2.2.set i (s.2.2.getD i [] ++ [c.2.1])).length := by simpa using hk'
    have e : ∀ x, (s.2.2.set i (s.2.2.getD i [] ++ [c.2.1])).getD k [] = x → (s.2.2.set i (s.2.2.getD i [] ++ [c.2.1])).take k ++ [x] = (s.2.2.set i (s.2.2.getD i [] ++ [c.2.1])).take (k + 1) := by
      intro x hx
      rw [← hx, getD_nat _ _ hlt, List.take_succ_eq_append_getElem hlt]
    rw [spyref2_Table_After.p3_eq, if_pos (by rw [dt]; omega), if_pos (by omega), if_pos (by omega), toNat_nat, if_pos (by omega), hc, wi_nat (by omega)]
    by_cases z : k = i
    · subst z
      rw [if_pos (by rw [eq_t]), if_pos (by omega), if_pos (by simp; omega), e _ (getD_set_same _ hk' _ _)]
      exact ih (k + 1) (by omega) (by omega)
    · rw [if_neg (by rw [eq_t]; omega), if_pos (by simp; omega), e _ (getD_set_ne _ (fun q => z q.symm) _ _)]
      exact ih (k + 1) (by omega) (by omega)
/-- A visit that is possible: the state after it. -/
theorem take_after {n : Night} {m : Mount_} {p : Progr} {cl : List (List Int)} {aim : List (List (Int × Int))} (ok : NightOk n) (pk : ProgOk p) {s : State_} (st : StOk n p s) (i : Nat) (hi : i < p.2.length) (a : Nat) (hs : (a : Int) + (p.2.getD i (0, 0, (0, 0, 0), 0, 0, 0, 0, 0, 0, 0, 0)).2.2.2.1 ≤ n.2.2.2.2.1) (hfull : ((s.2.2.getD i []).length : Int) < (p.2.getD i (0, 0, (0, 0, 0), 0, 0, 0, 0, 0, 0, 0, 0)).2.2.2.2.1) (f f' t : Int × Int) : ∃ x q, plan_Desk_take (n, m, p, cl, aim) s ((i : Int), (a : Int), f, t) = some (x, q) ∧ spyref2_Table_After (n, m, p, cl) s ((i : Int), (a : Int), f', t) = some q ∧ StOk n p q ∧ q.2.1 = t ∧ x = ((p.2.getD i (0, 0, (0, 0, 0), 0, 0, 0, 0, 0, 0, 0, 0)).1, IntKind.i64.wrap ((a : Int) - s.1), (a : Int), (p.2.getD i (0, 0, (0, 0, 0), 0, 0, 0, 0, 0, 0, 0, 0)).2.2.2.1) := by
  have hr := pk.reqs
  have h64 := ok.slots
  have hl := st.len
  have rl := req_len pk hi
  have hv : ∀ j, j < p.2.length → (s.2.2.getD j []).length ≤ 4 := fun j hj => by
    have := st.vis j hj
    have := req_len pk hj
    omega
  have h4 := hv i hi
  refine ⟨_, (IntKind.i64.wrap ((a : Int) + (p.2.getD i (0, 0, (0, 0, 0), 0, 0, 0, 0, 0, 0, 0, 0)).2.2.2.1), t, s.2.2.set i (s.2.2.getD i [] ++ [(a : Int)])), ?_, ?_, ⟨?_, by simpa using hl, fun j hj => ?_⟩, rfl, rfl⟩
  · rw [plan_Desk_take_eq]
    simp only
    rw [if_pos (by omega), if_pos (by omega), if_pos (by omega), if_pos (by omega), toNat_nat, if_pos (by omega), if_pos (by omega), if_pos (by omega), if_pos trivial]
  · rw [spyref2_Table_After_eq]
    simp only
    rw [if_pos (by omega), if_pos (by omega), toNat_nat]
    exact after_p3 pk s hl hv i ((i : Int), (a : Int), f', t) rfl _ _ _ _ _ 0 rfl (by omega)
  · simp only
    rw [wi (by omega) (by omega)]
    omega
  · simp only
    by_cases e : i = j
    · subst e
      rw [getD_set_same _ (by omega), List.length_append, List.length_singleton]
      omega
    · rw [getD_set_ne _ e]
      exact st.vis j hj
theorem visit_same {n : Night} {m : Mount_} {p : Progr} {cl : List (List Int)} {aim : List (List (Int × Int))} (hn : prop_CheckNight n = some 0) (hm : slew_CheckMount m = some 0) (ok : NightOk n) (mk : MtOk m) (pk : ProgOk p) (dk : DeskOk n p cl aim) {s : State_} (st : StOk n p s) (v : Int × Int × Int × Int) :
    ∃ c e q, plan_Desk_visit (n, m, p, cl, aim) s v = some (c, e) ∧ spyref2_Table_Visit (n, m, p, cl) s v = some (q, e) ∧ (e ≠ 0 → q = (0, (0, 0), [])) ∧ (e = 0 → ∃ x, plan_Desk_take (n, m, p, cl, aim) s c = some (x, q) ∧ StOk n p q) := by
  have hr := pk.reqs
  have h64 := ok.slots
  have hl := st.len
  have hslot := st.slot
  have bad : ∀ (e : Int), e ≠ 0 → ∀ {x : Option ((Int × Int × (Int × Int) × Int × Int) × Int)} {y : Option (State_ × Int)}, x = some ((0, 0, (0, 0), 0, 0), e) → y = some ((0, (0, 0), []), e) → ∃ c e q, x = some (c, e) ∧ y = some (q, e) ∧ (e ≠ 0 → q = (0, (0, 0), [])) ∧ (e = 0 → ∃ x, plan_Desk_take (n, m, p, cl, aim) s c = some (x, q) ∧ StOk n p q) := fun e he x y hx hy => ⟨_, e, _, hx, hy, fun _ => rfl, fun k => absurd k he⟩
  rw [plan_Desk_visit_eq, spyref2_Table_Visit_eq]
  simp only
  rcases index_of p v.1 hr with ⟨h1, h2⟩ | ⟨j, hj, h1, h2⟩
  · have hno : ∀ j, 0 ≤ j → j < p.2.length → (p.2.getD j (0, 0, (0, 0, 0), 0, 0, 0, 0, 0, 0, 0, 0)).1 ≠ v.1 := fun j _ hj e => h2 (by rw [← e, getD_nat _ _ hj]; exact List.mem_map.2 ⟨_, List.getElem_mem .., rfl⟩)
    have q := find_none p hr (n, m, p, cl, aim) s v (0, 0, (0, 0), 0, 0) (-1) _ 0 rfl (by omega) hno
    rw [show ((0 : Nat) : Int) = 0 from rfl] at q
    rw [q, h1, bind_some_, if_pos (by decide), plan_Desk_visit.p3_eq, if_neg (by rw [dt]; omega), if_pos (by decide)]
    exact bad 8 (by decide) rfl rfl
  · have hv : (p.2.getD j (0, 0, (0, 0, 0), 0, 0, 0, 0, 0, 0, 0, 0)).1 = v.1 := by rw [getD_nat _ _ hj]; exact h2
    have q := find_at p pk (n, m, p, cl, aim) s v (0, 0, (0, 0), 0, 0) j hj hv _ 0 (-1) rfl (by omega)
    rw [show ((0 : Nat) : Int) = 0 from rfl] at q
    have rl := req_len pk hj
    have hvis := st.vis j hj
    have hrf := req_fault pk hj
    rw [q, h1, bind_some_, if_neg (by rw [dt]; omega), plan_Desk_visit.p3_eq, if_neg (by rw [dt]; omega), if_neg (by rw [dt]; omega)]
    simp only [toNat_nat]
    rw [if_pos (show (0 : Int) ≤ (j : Int) by omega), if_pos (show (j : Int) < (p.2.length : Int) by omega), if_pos (show (0 : Int) ≤ (j : Int) by omega), if_pos (show (j : Int) < (s.2.2.length : Int) by omega)]
    rw [if_pos (show (0 : Int) ≤ (j : Int) by omega), if_pos (show (j : Int) < (p.2.length : Int) by omega), if_pos (show (0 : Int) ≤ (j : Int) by omega), if_pos (show (j : Int) < (s.2.2.length : Int) by omega)]
    obtain ⟨r, hR⟩ : ∃ r, p.2.getD j (0, 0, (0, 0, 0), 0, 0, 0, 0, 0, 0, 0, 0) = r := ⟨_, rfl⟩
    obtain ⟨l, hS⟩ : ∃ l, s.2.2.getD j [] = l := ⟨_, rfl⟩
    rw [hR] at rl hvis hrf hv ⊢
    rw [hS] at hvis ⊢
    simp only [in_val, bind_some_]
    by_cases c1 : v.2.2.2 = r.2.2.2.1
    case neg =>
      have n1 : (v.2.2.2 != r.2.2.2.1) = true := by rw [ne_t]; exact c1
      rw [if_pos n1, if_pos n1]
      exact bad 3 (by decide) rfl rfl
    have n1 : ¬ (v.2.2.2 != r.2.2.2.1) = true := by rw [ne_t]; exact fun q => q c1
    rw [if_neg n1, if_neg n1, c1, wi (x := n.2.2.2.2.1 - r.2.2.2.1) (by omega) (by omega)]
    by_cases c2 : s.1 ≤ v.2.2.1 ∧ v.2.2.1 ≤ n.2.2.2.2.1 - r.2.2.2.1
    case neg =>
      rw [if_neg (show ¬ (!decide (s.1 ≤ v.2.2.1 ∧ v.2.2.1 ≤ n.2.2.2.2.1 - r.2.2.2.1)) = false by rw [not_f, dt]; exact c2)]
      by_cases c3 : v.2.2.1 < s.1
      · rw [if_neg (by rw [df]; exact fun q => q c3)]
        exact bad 11 (by decide) rfl rfl
      · rw [if_pos (by rw [df]; exact c3), if_neg (by rw [df]; omega)]
        exact bad 11 (by decide) rfl rfl
    rw [if_pos (show (!decide (s.1 ≤ v.2.2.1 ∧ v.2.2.1 ≤ n.2.2.2.2.1 - r.2.2.2.1)) = false by rw [not_f, dt]; exact c2), if_pos (show decide (v.2.2.1 < s.1) = false by rw [df]; omega), if_pos (show decide (v.2.2.1 > n.2.2.2.2.1 - r.2.2.2.1) = false by rw [df]; omega), wi (x := v.2.2.1 - s.1) (by omega) (by omega)]
    by_cases c3 : 0 ≤ v.2.1 ∧ v.2.1 ≤ v.2.2.1 - s.1
    case neg =>
      rw [if_pos (show (!decide (0 ≤ v.2.1 ∧ v.2.1 ≤ v.2.2.1 - s.1)) = true by rw [not_t, df]; exact c3)]
      by_cases c4 : v.2.1 < 0
      · rw [if_neg (by rw [df]; exact fun q => q c4)]
        exact bad 11 (by decide) rfl rfl
      · rw [if_pos (by rw [df]; exact c4), if_pos (by rw [dt]; omega)]
        exact bad 11 (by decide) rfl rfl
    rw [if_neg (show ¬ (!decide (0 ≤ v.2.1 ∧ v.2.1 ≤ v.2.2.1 - s.1)) = true by rw [not_t, df]; exact fun q => q c3), if_pos (show decide (v.2.1 < 0) = false by rw [df]; omega), if_neg (show ¬ decide (v.2.1 > v.2.2.1 - s.1) = true by rw [dt]; omega)]
    by_cases c5 : (l.length : Int) = r.2.2.2.2.1
    · rw [if_pos (show decide ((l.length : Int) ≥ r.2.2.2.2.1) = true by rw [dt]; omega), if_pos (show ((l.length : Int) == r.2.2.2.2.1) = true by rw [eq_t]; exact c5)]
      exact bad 9 (by decide) rfl rfl
    rw [if_neg (show ¬ decide ((l.length : Int) ≥ r.2.2.2.2.1) = true by rw [dt]; omega), if_neg (show ¬ ((l.length : Int) == r.2.2.2.2.1) = true by rw [eq_t]; exact c5)]
    obtain ⟨a, ha⟩ : ∃ a : Nat, v.2.2.1 = (a : Int) := ⟨v.2.2.1.toNat, by omega⟩
    obtain ⟨L, hL⟩ : ∃ L : Nat, r.2.2.2.1 = (L : Int) := ⟨r.2.2.2.1.toNat, by omega⟩
    have tail : ∃ c e q, plan_Desk_visit.p22 (j : Int) v.2.2.1 (n, m, p, cl, aim) s v (0, 0, (0, 0), 0, 0) r = some (c, e) ∧ spyref2_Table_Visit.p13 (j : Int) (n, m, p, cl) s v (0, (0, 0), []) r = some (q, e) ∧ (e ≠ 0 → q = (0, (0, 0), [])) ∧ (e = 0 → ∃ x, plan_Desk_take (n, m, p, cl, aim) s c = some (x, q) ∧ StOk n p q) := by
      have lc := dk.lc
      have la := dk.la
      obtain ⟨al, ak⟩ := dk.a j hj
      rw [spyref2_Table_Visit.p13_eq]
      simp only
      have eo : spyref2_Table_AllOpen (n, m, p, cl) (j : Int) v.2.2.1 = spyref2_Table_AllOpen.p2 j a L 0 (n, m, p, cl) := by
        rw [spyref2_Table_AllOpen_eq]
        simp only
        rw [if_pos (by omega), if_pos (by omega), toNat_nat, hR, hL, ha]
      have run := open_run (m := m) dk s v (0, 0, (0, 0), 0, 0) r j hj a ha L (by omega) (by omega) (by omega) _ 0 rfl (by omega)
      rw [show ((0 : Nat) : Int) = 0 from rfl, Nat.add_zero] at run
      rw [eo, ha]
      rcases run with ⟨o1, o2⟩ | ⟨o1, o2⟩
      · rw [o1, o2, bind_some_, if_pos (by decide)]
        exact bad 16 (by decide) rfl rfl
      · rw [o1, o2, bind_some_, if_neg (by decide), plan_Desk_visit.p22_eq]
        simp only
        have hav : v.2.2.2 = (L : Int) := by omega
        have am := ak a (by omega)
        rw [hR] at am
        have wt : (Lit.int .i64 ((aim.getD j []).getD a (0, 0)).1).wf = true ∧ (Lit.int .i64 ((aim.getD j []).getD a (0, 0)).2).wf = true := aim_wf am
        rw [ha, hav, wi (x := (a : Int) + L) (by omega) (by omega), if_neg (by rw [dt]; omega), if_pos (by omega), if_pos (by omega), if_pos (by omega), toNat_nat, if_pos (by omega), toNat_nat, am, bind_some_, if_neg (show ¬ ((0 : Int) != 0) = true by decide)]
        obtain ⟨x, x1, x2, x3, x4⟩ := to_def m s.2.1 ((aim.getD j []).getD a (0, 0)) wt.1 wt.2
        rw [x1, bind_some_, bind_some_]
        by_cases z1 : x.2.2 = 0
        case neg =>
          have n1 : (x.2.2 != 0) = true := by rw [ne_t]; exact z1
          rw [if_pos n1, if_pos n1]
          exact bad 4 (by decide) rfl rfl
        have nz1 : ¬ (x.2.2 != 0) = true := by rw [ne_t]; exact fun q => q z1
        rw [if_neg nz1, if_neg nz1]
        obtain ⟨y, y1⟩ := slots_def hn ok x.2.1
        rw [y1, bind_some_, bind_some_]
        by_cases z2 : y > v.2.1
        · have n1 : decide (y > v.2.1) = true := by rw [dt]; exact z2
          rw [if_pos n1, if_pos n1]
          exact bad 14 (by decide) rfl rfl
        have n2 : ¬ decide (y > v.2.1) = true := by rw [dt]; exact z2
        rw [if_neg n2, if_neg n2]
        obtain ⟨t, t1, t2⟩ := track_def m n x.1 r.2.2.1 (a : Int) ((a : Int) + L) hm hn ok mk (request_dir hrf)
        rw [t1, bind_some_, bind_some_]
        by_cases z3 : t.2 = 0
        case neg =>
          have n1 : (t.2 != 0) = true := by rw [ne_t]; exact z3
          rw [if_pos n1, if_pos n1]
          exact bad 4 (by decide) rfl rfl
        have nz3 : ¬ (t.2 != 0) = true := by rw [ne_t]; exact fun q => q z3
        rw [if_neg nz3, if_neg nz3]
        obtain ⟨w1, q1, q2, q3, q4, _⟩ := take_after (m := m) (cl := cl) (aim := aim) ok pk st j hj a (by rw [hR]; omega) (by rw [hR, hS]; omega) x.1 (0, 0) t.1
        rw [q3, bind_some_]
        exact ⟨_, 0, q1, rfl, rfl, fun k => absurd rfl k, fun _ => ⟨w1, q2, q4⟩⟩
    by_cases c6 : (l.length : Int) > 0
    · have wl : IntKind.i64.wrap ((l.length : Int) - 1) = (l.length : Int) - 1 := wi (by omega) (by omega)
      rw [if_pos (show decide ((l.length : Int) > 0) = true by rw [dt]; exact c6), if_pos (show decide ((l.length : Int) > 0) = true by rw [dt]; exact c6)]
      simp only [wl]
      rw [if_pos (show 0 ≤ (l.length : Int) - 1 by omega), if_pos (show (l.length : Int) - 1 < (l.length : Int) by omega), if_pos (show 0 ≤ (l.length : Int) - 1 by omega), if_pos (show (l.length : Int) - 1 < (l.length : Int) by omega)]
      obtain ⟨g, hg⟩ : ∃ g, g = IntKind.i64.wrap (v.2.2.1 - l.getD ((l.length : Int) - 1).toNat 0) := ⟨_, rfl⟩
      rw [← hg]
      by_cases c7 : r.2.2.2.2.2.1 ≤ g ∧ g ≤ r.2.2.2.2.2.2.1
      · rw [if_neg (show ¬ (!decide (r.2.2.2.2.2.1 ≤ g ∧ g ≤ r.2.2.2.2.2.2.1)) = true by rw [not_t, df]; exact fun q => q c7), if_pos (show decide (g < r.2.2.2.2.2.1) = false by rw [df]; omega), if_neg (show ¬ decide (g > r.2.2.2.2.2.2.1) = true by rw [dt]; omega)]
        exact tail
      · rw [if_pos (show (!decide (r.2.2.2.2.2.1 ≤ g ∧ g ≤ r.2.2.2.2.2.2.1)) = true by rw [not_t, df]; exact c7)]
        by_cases c8 : g < r.2.2.2.2.2.1
        · rw [if_neg (show ¬ decide (g < r.2.2.2.2.2.1) = false by rw [df]; exact fun q => q c8)]
          exact bad 17 (by decide) rfl rfl
        · rw [if_pos (show decide (g < r.2.2.2.2.2.1) = false by rw [df]; exact c8), if_pos (show decide (g > r.2.2.2.2.2.2.1) = true by rw [dt]; omega)]
          exact bad 17 (by decide) rfl rfl
    · rw [if_neg (show ¬ decide ((l.length : Int) > 0) = true by rw [dt]; exact c6), if_neg (show ¬ decide ((l.length : Int) > 0) = true by rw [dt]; exact c6)]
      exact tail
/-! States that are the same. -/
theorem clone_one (l : List Int) (hl : l.length * 8 ≤ 140737488355328) : nilOr (.list true 3 (.int .i64)) l.isEmpty slices_Clone_int_int slices_Clone_int_int_1 (slices_Clone_int_int_2 l) = some l := by
  unfold nilOr
  rw [slices_Clone_int_int_eq, slices_Clone_int_int_1_eq, slices_Clone_int_int_2_eq]
  cases l with
  | nil => rfl
  | cons x l =>
    rw [if_neg (by simp), if_neg (by simp), if_pos (by rw [Nat.zero_add]; exact hl)]
theorem clone_p3 (s b2 : State_) (h0 : s.2.2.length ≤ 9223372036854775806) (hs : ∀ x, x ∈ s.2.2 → x.length * 8 ≤ 140737488355328) : ∀ (u k : Nat) (acc : List (List Int)), s.2.2.length - k = u → k ≤ s.2.2.length → acc.length = s.2.2.length → (∀ j, j < k → acc[j]? = s.2.2[j]?) → plan_Clone.p3 s.2.2 s.2.2.length k s b2 acc = some s := by
  intro u
  induction u with
  | zero =>
    intro k acc hu hk ha hj
    rw [plan_Clone.p3_eq, if_neg (by rw [dt]; omega), fill_end ha (fun j h => hj j (by omega))]
  | succ u ih =>
    intro k acc hu hk ha hj
    have hlt : k < s.2.2.length := by omega
    rw [plan_Clone.p3_eq, if_pos (by rw [dt]; omega), if_pos (by omega), if_pos (by omega), toNat_nat, getD_nat _ _ hlt, clone_one _ (hs _ (List.getElem_mem ..)), bind_some_, if_pos (by omega), if_pos (by omega), wi_nat (by omega)]
    exact ih (k + 1) _ (by omega) (by omega) (by simp [ha]) (set_fill hlt ha hj)
theorem clone_same (s : State_) (h0 : s.2.2.length * 24 ≤ 140737488355328) (hs : ∀ x, x ∈ s.2.2 → x.length * 8 ≤ 140737488355328) : plan_Clone s = some s := by
  rw [plan_Clone_eq, if_pos rfl, if_pos (by omega), if_pos (by omega)]
  exact clone_p3 s _ (by omega) hs _ 0 (List.replicate s.2.2.length []) rfl (by omega) (by simp) (fun j h => absurd h (by omega))
/-! A state that fits a table. -/
theorem request_vis {p : Progr} (ok : ProgOk p) (j : Nat) (h : j < p.2.length) : 1 ≤ p.2[j].2.2.2.1 ∧ p.2[j].2.2.2.1 ≤ 8 ∧ 1 ≤ p.2[j].2.2.2.2.1 ∧ p.2[j].2.2.2.2.1 ≤ 4 := request_len (ok.at_ j h).1
/-! What the proposals have used. -/
/-! What all planners ask first. -/
theorem all_parts {n : Night} {m : Mount_} {p : Progr} (h : plan_CheckAll n m p = some 0) : prop_CheckNight n = some 0 ∧ slew_CheckMount m = some 0 ∧ MtOk m := by
  obtain ⟨a, a2⟩ := (night_eq n).2
  have a1 := (night_eq n).1.trans a2
  obtain ⟨b, b1, _, b3⟩ := mount_all m
  rw [plan_CheckAll_eq, a1, bind_some_] at h
  obtain ⟨e1, h⟩ := ite_e h
  rw [b1, bind_some_] at h
  obtain ⟨e2, h⟩ := ite_e h
  subst e1 e2
  exact ⟨a1, b1, b3 rfl⟩
theorem st_small {n : Night} {p : Progr} (pk : ProgOk p) {s : State_} (st : StOk n p s) : s.2.2.length ≤ 16 ∧ ∀ x, x ∈ s.2.2 → x.length ≤ 4 := by
  have hr := pk.reqs
  have hl := st.len
  refine ⟨by omega, fun x hx => ?_⟩
  obtain ⟨j, hj, e⟩ := List.mem_iff_getElem.1 hx
  have a := st.vis j (by omega)
  have b := req_len pk (j := j) (by omega)
  rw [getD_nat _ _ hj, e] at a
  omega
theorem st_clone {n : Night} {p : Progr} (pk : ProgOk p) {s : State_} (st : StOk n p s) : plan_Clone s = some s := by
  obtain ⟨h1, h2⟩ := st_small pk st
  exact clone_same s (by omega) (fun x hx => by have := h2 x hx; omega)
theorem new_zero {n : Night} {m : Mount_} {p : Progr} {e : Int} (h : plan_CheckAll n m p = some e) (he : e ≠ 0) : plan_NewDesk n m p = some ((((0, 0), (0, 0, 0, 0), 0, 0, 0, (0, 0, 0), (0, 0, 0), 0, []), ((0, 0, 0, 0), (0, 0, 0, 0), 0, 0), ([], []), [], []), e) := by
  rw [plan_NewDesk_eq, h, bind_some_, if_pos (by rw [ne_t]; exact he)]
theorem desk_check {n : Night} {m : Mount_} {p : Progr} {cl : List (List Int)} {aim : List (List (Int × Int))} (ok : NightOk n) (s : State_) : plan_Desk_check (n, m, p, cl, aim) s = plan_CheckState n m p s := by
  have h := ok.slots
  rw [plan_Desk_check_eq]
  simp only
  rw [if_neg (by rw [eq_t]; omega), bind_id]
theorem desk_zero (s : State_) : plan_Desk_check (((0, 0), (0, 0, 0, 0), 0, 0, 0, (0, 0, 0), (0, 0, 0), 0, []), ((0, 0, 0, 0), (0, 0, 0, 0), 0, 0), ([], []), [], []) s = some 10 := by
  rw [plan_Desk_check_eq]
  rfl

end Go.Proofs.YtdcbapdakaaeoaaGreat.Pure
