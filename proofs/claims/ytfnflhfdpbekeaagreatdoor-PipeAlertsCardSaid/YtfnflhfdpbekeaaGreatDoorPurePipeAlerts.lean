/- PipeAlerts: the pure statement, proved. -/
import Derived.Test.YtfnflhfdpbekeaaGreatDoorEA0
import Derived.Test.YtfnflhfdpbekeaaGreatDoorEA1
import Derived.Test.YtfnflhfdpbekeaaGreatDoorEA2
import Derived.Test.YtfnflhfdpbekeaaGreatDoorPl
import Derived.Test.YtfnflhfdpbekeaaGreatDoorLemA
import Derived.Test.YtfnflhfdpbekeaaGreatDoorLemB
namespace Go.Proofs.YtfnflhfdpbekeaaGreatDoor.Pure
set_option linter.unusedVariables false
set_option linter.unusedSimpArgs false
open Go Go.RowKit Go.Proofs.YtfnflhfdpbekeaaGreatDoor.Pv Go.Proofs.YtfnflhfdpbekeaaGreatDoor.Pl Go.Proofs.YtfnflhfdpbekeaaGreatDoor.EA

/-! What changed between two nights. -/
abbrev Rw : Type := Int × (Bd × Bd × Bd) × Bd × Bd × List Int × Int
theorem checkR_def (l : List Rw) : ∃ e, change_check l = some e ∧ (e = 0 → l.length ≤ 200) := by
  have p7 : ∀ (t : List Bd), t.length = 3 → ∀ (n : Int) (i : Int) (r : Rw), Def (change_check.p4 l n (IntKind.i64.wrap (i + 1))) → ∀ (u j : Nat), 3 - j = u → j ≤ 3 → Def (change_check.p7 l n i t 3 (j : Int) r) := by
    intro t ht n i r next u
    induction u with
    | zero =>
      intro j h1 h2
      obtain ⟨e, he, _⟩ := checkQuanta r.2.2.1
      rw [change_check.p7_eq, if_neg (by rw [dt]; omega), he, bind_some_]
      exact Def.ite (fun _ => .mk _) (fun _ => next)
    | succ u ih =>
      intro j h1 h2
      rw [change_check.p7_eq, if_pos (by rw [dt]; omega), if_pos (by omega), if_pos (by omega)]
      refine (checkC_def _).bind fun _ _ => Def.ite (fun _ => .mk _) (fun _ => ?_)
      rw [wi_nat (by omega)]
      exact ih (j + 1) (by omega) (by omega)
  have p4 : l.length ≤ 200 → ∀ (u i : Nat), l.length - i = u → i ≤ l.length → Def (change_check.p4 l (l.length : Int) (i : Int)) := by
    intro hl u
    induction u with
    | zero =>
      intro i h1 h2
      rw [change_check.p4_eq, if_neg (by rw [dt]; omega)]
      exact .mk _
    | succ u ih =>
      intro i h1 h2
      rw [change_check.p4_eq, if_pos (by rw [dt]; omega), if_pos (by omega), if_pos (by omega)]
      refine p7 _ rfl _ _ _ ?_ 3 0 rfl (by omega)
      rw [wi_nat (by omega)]
      exact ih (i + 1) (by omega) (by omega)
  rw [change_check_eq]
  by_cases h : (l.length : Int) > 200
  · rw [if_pos (by rw [dt]; exact h)]
    exact ⟨2, rfl, fun q => by cases q⟩
  · rw [if_neg (by rw [dt]; exact h)]
    obtain ⟨e, he⟩ := p4 (by omega) l.length 0 (by omega) (by omega)
    exact ⟨e, he, fun _ => by omega⟩
def GoodN (n : Nat) (a : List (List Int)) : Prop := ∀ r, r ∈ a → ∀ x, x ∈ r → 0 ≤ x ∧ x < (n : Int)
theorem near_spec (l m : List Rw) (hl : l.length ≤ 200) (hm : m.length ≤ 200) : ∃ out, change_near l m = some out ∧ out.length = l.length ∧ GoodN m.length out := by
  have p6 : ∀ (i : Nat), i < l.length → (∀ acc, acc.length = l.length → GoodN m.length acc → (∀ k, i + 1 ≤ k → acc.getD k [] = []) → ∃ out, change_near.p3 m l (l.length : Int) (IntKind.i64.wrap ((i : Int) + 1)) acc = some out ∧ out.length = l.length ∧ GoodN m.length out) →
      ∀ (u j : Nat) (r : Rw) (acc : List (List Int)), m.length - j = u → j ≤ m.length → acc.length = l.length → GoodN m.length acc → (∀ k, i + 1 ≤ k → acc.getD k [] = []) → (acc.getD i []).length ≤ j →
      ∃ out, change_near.p6 m (i : Int) l (l.length : Int) (i : Int) m (m.length : Int) (j : Int) r acc = some out ∧ out.length = l.length ∧ GoodN m.length out := by
    intro i hi next u
    induction u with
    | zero =>
      intro j r acc h1 h2 h3 h4 h5 h6
      rw [change_near.p6_eq, if_neg (by rw [dt]; omega)]
      exact next acc h3 h4 h5
    | succ u ih =>
      intro j r acc h1 h2 h3 h4 h5 h6
      obtain ⟨s, hs⟩ := share_def r.2.1 (m.getD (j : Int).toNat (0, ((0, 0, false), (0, 0, false), 0, 0, false), (0, 0, false), (0, 0, false), [], 0)).2.1
      rw [change_near.p6_eq, if_pos (by rw [dt]; omega), if_pos (by omega), if_pos (by omega), hs, bind_some_, toNat_nat]
      by_cases hq : s = true
      · rw [if_pos hq, if_pos (by omega), if_pos (by omega), if_pos (by omega), if_pos (by omega), if_pos (by omega), if_pos rfl, wi_nat (by omega)]
        refine ih (j + 1) r _ (by omega) (by omega) (by rw [List.length_set]; exact h3) ?_ ?_ ?_
        · intro q hq x hx
          rcases List.mem_or_eq_of_mem_set hq with hq | hq
          · exact h4 q hq x hx
          · rw [hq] at hx
            rcases List.mem_append.1 hx with hx | hx
            · rw [getD_nat [] acc (by omega)] at hx
              exact h4 _ (List.getElem_mem _) x hx
            · rw [List.mem_singleton.1 hx]
              omega
        · intro k hk
          have := h5 k hk
          rw [List.getD_eq_getElem?_getD] at this ⊢
          rw [List.getElem?_set_ne (by omega)]
          exact this
        · rw [List.getD_eq_getElem?_getD, List.getElem?_set_self (by omega), Option.getD_some, List.length_append, List.length_singleton]
          omega
      · rw [if_neg hq, wi_nat (by omega)]
        exact ih (j + 1) r acc (by omega) (by omega) h3 h4 h5 (by omega)
  have p3 : ∀ (u i : Nat) (acc : List (List Int)), l.length - i = u → i ≤ l.length → acc.length = l.length → GoodN m.length acc → (∀ k, i ≤ k → acc.getD k [] = []) →
      ∃ out, change_near.p3 m l (l.length : Int) (i : Int) acc = some out ∧ out.length = l.length ∧ GoodN m.length out := by
    intro u
    induction u with
    | zero =>
      intro i acc h1 h2 h3 h4 h5
      rw [change_near.p3_eq, if_neg (by rw [dt]; omega)]
      exact ⟨acc, rfl, h3, h4⟩
    | succ u ih =>
      intro i acc h1 h2 h3 h4 h5
      rw [change_near.p3_eq, if_pos (by rw [dt]; omega), if_pos (by omega), if_pos (by omega)]
      refine p6 i (by omega) ?_ m.length 0 _ acc (by omega) (by omega) h3 h4 (fun k hk => h5 k (by omega)) (by rw [h5 i (by omega)]; simp)
      intro acc h3 h4 h5
      rw [wi_nat (by omega)]
      exact ih (i + 1) acc (by omega) (by omega) h3 h4 h5
  rw [change_near_eq, if_pos rfl, if_pos (by omega), if_pos (by omega)]
  refine p3 l.length 0 _ (by omega) (by omega) (by simp) ?_ ?_
  · intro r hr x hx
    rw [(List.mem_replicate.1 hr).2] at hx
    cases hx
  · intro k _
    rw [List.getD_eq_getElem?_getD, List.getElem?_replicate]
    split <;> rfl
theorem kind_spec (a b : Rw) : ∃ k, change_kind a b = some k ∧ (k = 2 ∨ k = 3 ∨ k = 7) := by
  obtain ⟨q, hq⟩ : Def (spyglass_bound_Cmp_api_Quanta b.2.2.1 a.2.2.1) := by
    obtain ⟨v, hv, _⟩ := vagueQuanta b.2.2.1 a.2.2.1
    rw [spyglass_bound_Cmp_api_Quanta_eq, hv, bind_some_]
    repeat' (refine Def.ite (fun _ => ?_) (fun _ => ?_))
    all_goals exact .mk _
  rw [change_kind_eq, hq, bind_some_]
  by_cases h1 : (q == 1) = true
  · rw [if_pos h1]; exact ⟨_, rfl, by omega⟩
  · rw [if_neg h1]
    by_cases h2 : (q == (-1)) = true
    · rw [if_pos h2]; exact ⟨_, rfl, by omega⟩
    · rw [if_neg h2]; exact ⟨_, rfl, by omega⟩
def CkOk (old now : List Rw) (c : Int × Int × Int) : Prop :=
  (c.1 = 1 ∧ 0 ≤ c.2.2 ∧ c.2.2 < (now.length : Int)) ∨ (c.1 = 5 ∧ 0 ≤ c.2.1 ∧ c.2.1 < (old.length : Int)) ∨
  ((c.1 = 2 ∨ c.1 = 3) ∧ (0 ≤ c.2.1 ∧ c.2.1 < (old.length : Int)) ∧ 0 ≤ c.2.2 ∧ c.2.2 < (now.length : Int)) ∨ (c.1 = 7 ∨ c.1 = 8)
theorem all_more {p : Int × Int × Int → Prop} {l : List (Int × Int × Int)} (h : ∀ c, c ∈ l → p c) {c : Int × Int × Int} (hc : p c) : ∀ x, x ∈ l ++ [c] → p x := by
  intro x hx
  rcases List.mem_append.1 hx with hx | hx
  · exact h x hx
  · rw [List.mem_singleton.1 hx]; exact hc
theorem btw_p19 (old now : List Rw) (t : List (List Int)) (ht : t.length = old.length) (ho : old.length ≤ 200) : ∀ (u i : Nat) (acc : List (Int × Int × Int)), t.length - i = u → i ≤ t.length → acc.length ≤ 200 + i → (∀ c, c ∈ acc → CkOk old now c) →
    ∃ out, change_Between.p19 t (t.length : Int) (i : Int) acc = some (out, 0) ∧ out.length ≤ 400 ∧ ∀ c, c ∈ out → CkOk old now c := by
  intro u
  induction u with
  | zero =>
    intro i acc h1 h2 h3 h4
    rw [change_Between.p19_eq, if_neg (by rw [dt]; omega)]
    exact ⟨acc, rfl, by omega, h4⟩
  | succ u ih =>
    intro i acc h1 h2 h3 h4
    rw [change_Between.p19_eq, if_pos (by rw [dt]; omega), if_pos (by omega), if_pos (by omega), wi_nat (by omega)]
    by_cases hq : (((t.getD (i : Int).toNat []).length : Int) == 0) = true
    · rw [if_pos hq, if_pos (by omega)]
      exact ih (i + 1) _ (by omega) (by omega) (by rw [List.length_append, List.length_singleton]; omega) (all_more h4 (Or.inr (Or.inl ⟨rfl, by show 0 ≤ (i : Int) ∧ (i : Int) < _; omega⟩)))
    · rw [if_neg hq]
      exact ih (i + 1) _ (by omega) (by omega) (by omega) h4
theorem btw_p10 (old now : List Rw) (t forth : List (List Int)) (hf : forth.length = old.length) (ht : t.length = now.length) (ho : old.length ≤ 200) (hn : now.length ≤ 200) (hg : GoodN old.length t) : ∀ (u i : Nat) (acc : List (Int × Int × Int)), t.length - i = u → i ≤ t.length → acc.length ≤ i → (∀ c, c ∈ acc → CkOk old now c) →
    ∃ out, change_Between.p10 old now forth t (t.length : Int) (i : Int) acc = some (out, 0) ∧ out.length ≤ 400 ∧ ∀ c, c ∈ out → CkOk old now c := by
  intro u
  induction u with
  | zero =>
    intro i acc h1 h2 h3 h4
    rw [change_Between.p10_eq, if_neg (by rw [dt]; omega)]
    exact btw_p19 old now forth hf ho forth.length 0 acc (by omega) (by omega) (by omega) h4
  | succ u ih =>
    intro i acc h1 h2 h3 h4
    have more : ∀ c, CkOk old now c → ∃ out, change_Between.p10 old now forth t (t.length : Int) (IntKind.i64.wrap ((i : Int) + 1)) (acc ++ [c]) = some (out, 0) ∧ out.length ≤ 400 ∧ ∀ c, c ∈ out → CkOk old now c := by
      intro c hc
      rw [wi_nat (by omega)]
      exact ih (i + 1) _ (by omega) (by omega) (by rw [List.length_append, List.length_singleton]; omega) (all_more h4 hc)
    rw [change_Between.p10_eq, if_pos (by rw [dt]; omega), if_pos (by omega), if_pos (by omega)]
    have hr : t.getD (i : Int).toNat [] ∈ t := by
      rw [getD_int [] t (by omega)]
      exact List.getElem_mem _
    generalize t.getD (i : Int).toNat [] = r at hr ⊢
    by_cases h5 : (r.length : Int) = 0
    · rw [if_pos (by rw [eq_t]; exact h5), if_pos (by omega)]
      exact more _ (Or.inl ⟨rfl, by show 0 ≤ (i : Int) ∧ (i : Int) < _; omega⟩)
    · rw [if_neg (by rw [eq_t]; exact h5)]
      by_cases h6 : (r.length : Int) > 1
      · rw [if_neg (by rw [df]; exact fun q => q h6), if_pos (by omega)]
        exact more _ (Or.inr (Or.inr (Or.inr (Or.inr rfl))))
      · have hx : r.getD 0 0 ∈ r := by
          rw [getD_nat 0 r (by omega)]
          exact List.getElem_mem _
        have hx2 := hg r hr _ hx
        generalize r.getD 0 0 = x at hx2 ⊢
        rw [if_pos (by rw [df]; exact h6), if_pos (by omega), if_pos (by omega), if_pos (by omega)]
        by_cases h7 : ((forth.getD x.toNat []).length : Int) > 1
        · rw [if_pos (by rw [dt]; exact h7), if_pos (by omega)]
          exact more _ (Or.inr (Or.inr (Or.inr (Or.inr rfl))))
        · obtain ⟨k, hk, hk2⟩ := kind_spec (old.getD x.toNat (0, ((0, 0, false), (0, 0, false), 0, 0, false), (0, 0, false), (0, 0, false), [], 0)) (now.getD (i : Int).toNat (0, ((0, 0, false), (0, 0, false), 0, 0, false), (0, 0, false), (0, 0, false), [], 0))
          rw [if_neg (by rw [dt]; exact h7), if_pos (by omega), if_pos (by omega), if_pos (by omega), if_pos (by omega), if_pos (by omega), hk, bind_some_, if_pos (by omega), if_pos (by omega)]
          refine more _ ?_
          rcases hk2 with q | q | q
          · exact Or.inr (Or.inr (Or.inl ⟨Or.inl q, hx2, by show 0 ≤ (i : Int) ∧ (i : Int) < _; omega⟩))
          · exact Or.inr (Or.inr (Or.inl ⟨Or.inr q, hx2, by show 0 ≤ (i : Int) ∧ (i : Int) < _; omega⟩))
          · exact Or.inr (Or.inr (Or.inr (Or.inl q)))
theorem between_spec (old now : List Rw) : ∃ l e, change_Between old now = some (l, e) ∧ (e = 0 → l.length ≤ 400 ∧ ∀ c, c ∈ l → CkOk old now c) := by
  obtain ⟨e, h1, h2⟩ := checkR_def old
  obtain ⟨f, h3, h4⟩ := checkR_def now
  rw [change_Between_eq, h1, bind_some_]
  by_cases he : e = 0
  · rw [if_neg (by rw [ne_t]; exact fun q => q he), h3, bind_some_]
    by_cases hf : f = 0
    · have ho := h2 he
      have hn := h4 hf
      obtain ⟨back, k1, k2, k3⟩ := near_spec now old hn ho
      obtain ⟨forth, k4, k5, k6⟩ := near_spec old now ho hn
      rw [if_neg (by rw [ne_t]; exact fun q => q hf), k1, bind_some_, k4, bind_some_]
      obtain ⟨out, q1, q2, q3⟩ := btw_p10 old now back forth k5 k2 ho hn k3 back.length 0 [] (by omega) (by omega) (by simp) (fun c hc => by cases hc)
      exact ⟨out, 0, q1, fun _ => ⟨q2, q3⟩⟩
    · rw [if_pos (by rw [ne_t]; exact hf)]
      exact ⟨_, _, rfl, fun q => absurd q hf⟩
  · rw [if_pos (by rw [ne_t]; exact he)]
    exact ⟨_, _, rfl, fun q => absurd q he⟩
/-! The rows that are told. -/
theorem clean_eq (r : Rw) : ∃ q, pipe_plain r = some q ∧ spyref2_Clean r = some q := by
  rw [pipe_plain_eq, spyref2_Clean_eq]
  simp only [not_t]
  by_cases h1 : (r.2.2.2.2.2 == 0) = true
  · rw [if_pos h1]
    by_cases h2 : r.2.1.1.2.2 = false
    · rw [if_pos h2]
      by_cases h3 : r.2.1.2.1.2.2 = false
      · rw [if_pos h3]; exact ⟨_, rfl, rfl⟩
      · rw [if_neg h3]; exact ⟨_, rfl, rfl⟩
    · rw [if_neg h2]; exact ⟨_, rfl, rfl⟩
  · rw [if_neg h1]; exact ⟨_, rfl, rfl⟩
def loudb (r : Rw) (sure : Int) : Bool := if (!r.2.2.1.2.2) = true then decide (r.2.2.1.1 > sure) else false
theorem loud_eq (r : Rw) (sure : Int) : pipe_loud r sure = some (loudb r sure) := by
  rw [pipe_loud_eq]
  unfold loudb
  by_cases h : (!r.2.2.1.2.2) = true
  · rw [if_pos h, if_pos h]
  · rw [if_neg h, if_neg h]
abbrev Al : Type := Int × Int × Int × Bd × Bd × Bd × Bd × Int
noncomputable def nxt (old now : List Rw) (first sure : Int) (t : List (Int × Int × Int)) (n i : Int) (at_ : Bd) (k : Int) (acc : List Al) (r : Rw) (ok : Bool) : Option (List Al × Int) :=
  if ok = true then (sphere_Range r.2.1).bind fun r1 => if (acc.length + 1) * 128 ≤ 140737488355328 then (spyref2_AlertsOf.p8 old now first sure t n (IntKind.i64.wrap (i + 1)) at_ (acc ++ [(IntKind.i64.wrap (first + (acc.length : Int)), k, r.1, at_, r1.1, r1.2, r.2.2.1, 0)])) else (none)
  else spyref2_AlertsOf.p8 old now first sure t n (IntKind.i64.wrap (i + 1)) at_ acc
section
variable (old now : List Rw) (first sure : Int) (t : List (Int × Int × Int)) (n i : Int) (at_ : Bd) (c : Int × Int × Int) (r : Rw) (acc : List Al)
theorem p19_nf (good q : Bool) (h : spyref2_Clean r = some q) : spyref2_AlertsOf.p19 old now first sure good t n i at_ c r acc = nxt old now first sure t n i at_ c.1 acc r (q && good) := by
  rw [spyref2_AlertsOf.p19_eq, h]
  unfold nxt
  cases good with
  | false => rw [if_neg (by decide), Bool.and_false, if_neg (by decide)]
  | true =>
    rw [if_pos rfl, bind_some_, Bool.and_true]
theorem p17_nf (q : Bool) (h : spyref2_Clean r = some q) : spyref2_AlertsOf.p17 old now first sure t n i at_ c r acc = nxt old now first sure t n i at_ c.1 acc r (q && loudb r sure) := by
  rw [spyref2_AlertsOf.p17_eq]
  unfold loudb
  by_cases k : (!r.2.2.1.2.2) = true
  · rw [if_pos k, if_pos k]; exact p19_nf _ _ _ _ _ _ _ _ _ _ _ _ _ h
  · rw [if_neg k, if_neg k]; exact p19_nf _ _ _ _ _ _ _ _ _ _ _ _ _ h
end
theorem row_spec (old now : List Rw) (c : Int × Int × Int) (sure : Int) (h : CkOk old now c) (hk : c.1 = 1 ∨ c.1 = 5 ∨ c.1 = 2 ∨ c.1 = 3) :
    ∃ r ok, pipe_row old now c sure = some (r, ok) ∧ ∀ first t n i at_ acc, spyref2_AlertsOf.p11 old now first sure t n i at_ c acc = nxt old now first sure t n i at_ c.1 acc r ok := by
  rcases h with ⟨h1, h2, h3⟩ | ⟨h1, h2, h3⟩ | ⟨h1, ⟨h2, h3⟩, h4, h5⟩ | h1
  · obtain ⟨q, hq1, hq2⟩ := clean_eq (now.getD c.2.2.toNat (0, ((0, 0, false), (0, 0, false), 0, 0, false), (0, 0, false), (0, 0, false), [], 0))
    refine ⟨now.getD c.2.2.toNat (0, ((0, 0, false), (0, 0, false), 0, 0, false), (0, 0, false), (0, 0, false), [], 0), q && loudb (now.getD c.2.2.toNat (0, ((0, 0, false), (0, 0, false), 0, 0, false), (0, 0, false), (0, 0, false), [], 0)) sure, ?_, ?_⟩
    · rw [pipe_row_eq, if_pos (by rw [eq_t]; exact h1), if_pos h2, if_pos h3, if_pos h2, if_pos h3, hq1, bind_some_]
      cases q with
      | false => rw [if_neg (by decide)]; rfl
      | true => rw [if_pos rfl, if_pos h2, if_pos h3, loud_eq, bind_some_]; rfl
    · intro first t n i at_ acc
      rw [spyref2_AlertsOf.p11_eq, if_neg (by rw [eq_t]; omega), if_pos h2, if_pos h3, spyref2_AlertsOf.p16_eq, if_neg (by rw [eq_f]; exact fun q => q h1)]
      exact p17_nf _ _ _ _ _ _ _ _ _ _ _ _ hq2
  · obtain ⟨q, hq1, hq2⟩ := clean_eq (old.getD c.2.1.toNat (0, ((0, 0, false), (0, 0, false), 0, 0, false), (0, 0, false), (0, 0, false), [], 0))
    refine ⟨old.getD c.2.1.toNat (0, ((0, 0, false), (0, 0, false), 0, 0, false), (0, 0, false), (0, 0, false), [], 0), q && loudb (old.getD c.2.1.toNat (0, ((0, 0, false), (0, 0, false), 0, 0, false), (0, 0, false), (0, 0, false), [], 0)) sure, ?_, ?_⟩
    · rw [pipe_row_eq, if_neg (by rw [eq_t]; omega), if_pos (by rw [eq_t]; exact h1), if_pos h2, if_pos h3, if_pos h2, if_pos h3, hq1, bind_some_]
      cases q with
      | false => rw [if_neg (by decide)]; rfl
      | true => rw [if_pos rfl, if_pos h2, if_pos h3, loud_eq, bind_some_]; rfl
    · intro first t n i at_ acc
      rw [spyref2_AlertsOf.p11_eq, if_pos (by rw [eq_t]; exact h1), if_pos h2, if_pos h3, spyref2_AlertsOf.p16_eq, if_pos (by rw [eq_f]; omega), if_pos (by rw [eq_t]; exact h1)]
      exact p17_nf _ _ _ _ _ _ _ _ _ _ _ _ hq2
  · obtain ⟨q, hq1, hq2⟩ := clean_eq (old.getD c.2.1.toNat (0, ((0, 0, false), (0, 0, false), 0, 0, false), (0, 0, false), (0, 0, false), [], 0))
    obtain ⟨p, hp1, hp2⟩ := clean_eq (now.getD c.2.2.toNat (0, ((0, 0, false), (0, 0, false), 0, 0, false), (0, 0, false), (0, 0, false), [], 0))
    refine ⟨now.getD c.2.2.toNat (0, ((0, 0, false), (0, 0, false), 0, 0, false), (0, 0, false), (0, 0, false), [], 0), p && q, ?_, ?_⟩
    · have k8 : pipe_row.p8 old now c (0, ((0, 0, false), (0, 0, false), 0, 0, false), (0, 0, false), (0, 0, false), [], 0) = some (now.getD c.2.2.toNat (0, ((0, 0, false), (0, 0, false), 0, 0, false), (0, 0, false), (0, 0, false), [], 0), p && q) := by
        rw [pipe_row.p8_eq, if_pos h4, if_pos h5, if_pos h2, if_pos h3, hq1, bind_some_]
        cases q with
        | false => rw [if_neg (by decide), Bool.and_false]
        | true => rw [if_pos rfl, if_pos h4, if_pos h5, hp1, bind_some_, Bool.and_true]
      rw [pipe_row_eq, if_neg (by rw [eq_t]; omega), if_neg (by rw [eq_t]; omega)]
      by_cases e2 : c.1 = 2
      · rw [if_pos (by rw [eq_t]; exact e2), if_pos (by rw [eq_t]; exact e2)]
        exact k8
      · rw [if_neg (by rw [eq_t]; exact e2), if_pos (by rw [eq_t]; omega)]
        exact k8
    · intro first t n i at_ acc
      rw [spyref2_AlertsOf.p11_eq, if_neg (by rw [eq_t]; omega), if_pos h4, if_pos h5, spyref2_AlertsOf.p16_eq, if_pos (by rw [eq_f]; omega), if_neg (by rw [eq_t]; omega), if_pos h2, if_pos h3, hq2, bind_some_]
      exact p19_nf _ _ _ _ _ _ _ _ _ _ _ _ _ hp2
  · omega
theorem alerts_loop (old now : List Rw) (first sure : Int) (at_ : Bd) (t : List (Int × Int × Int)) (ht : t.length ≤ 400) (hc : ∀ c, c ∈ t → CkOk old now c) : ∀ (u i : Nat) (acc : List Al), t.length - i = u → i ≤ t.length → acc.length ≤ i →
    ∃ r, pipe_Alerts.p8 old now first sure t (t.length : Int) (i : Int) at_ acc = some (r, 0) ∧ spyref2_AlertsOf.p8 old now first sure t (t.length : Int) (i : Int) at_ acc = some (r, 0) ∧ r.length ≤ 400 := by
  intro u
  induction u with
  | zero =>
    intro i acc h1 h2 h3
    rw [pipe_Alerts.p8_eq, if_neg (by rw [dt]; omega), spyref2_AlertsOf.p8_eq, if_neg (by rw [dt]; omega)]
    exact ⟨acc, rfl, rfl, by omega⟩
  | succ u ih =>
    intro i acc h1 h2 h3
    rw [pipe_Alerts.p8_eq, if_pos (by rw [dt]; omega), if_pos (by omega), if_pos (by omega), spyref2_AlertsOf.p8_eq, if_pos (by rw [dt]; omega), if_pos (by omega), if_pos (by omega)]
    have hr : CkOk old now (t.getD (i : Int).toNat (0, 0, 0)) := by
      rw [getD_int _ t (by omega)]
      exact hc _ (List.getElem_mem _)
    generalize t.getD (i : Int).toNat (0, 0, 0) = c at hr ⊢
    by_cases hk : c.1 = 1 ∨ c.1 = 5 ∨ c.1 = 2 ∨ c.1 = 3
    · obtain ⟨r, ok, k1, k2⟩ := row_spec old now c sure hr hk
      have e : (if (c.1 != 1) = true then (if (c.1 != 2) = true then (if (c.1 != 3) = true then (if (c.1 != 5) = true then (spyref2_AlertsOf.p8 old now first sure t (t.length : Int) (IntKind.i64.wrap ((i : Int) + 1)) at_ acc) else (spyref2_AlertsOf.p11 old now first sure t (t.length : Int) (i : Int) at_ c acc)) else (spyref2_AlertsOf.p11 old now first sure t (t.length : Int) (i : Int) at_ c acc)) else (spyref2_AlertsOf.p11 old now first sure t (t.length : Int) (i : Int) at_ c acc)) else (spyref2_AlertsOf.p11 old now first sure t (t.length : Int) (i : Int) at_ c acc)) = spyref2_AlertsOf.p11 old now first sure t (t.length : Int) (i : Int) at_ c acc := by
        simp only [ne_t]
        refine ite_eq (fun _ => ite_eq (fun _ => ite_eq (fun _ => ite_eq (fun _ => by omega) (fun _ => rfl)) (fun _ => rfl)) (fun _ => rfl)) (fun _ => rfl)
      rw [e, k2, k1, bind_some_]
      unfold nxt
      cases ok with
      | false =>
        rw [if_pos (by rfl), if_neg (by decide), wi_nat (by omega)]
        exact ih (i + 1) acc (by omega) (by omega) (by omega)
      | true =>
        obtain ⟨g, hg⟩ := range_def r.2.1
        rw [if_neg (by simp), if_pos rfl, hg, bind_some_, bind_some_, if_pos (by omega), if_pos (by omega), wi_nat (by omega)]
        exact ih (i + 1) _ (by omega) (by omega) (by rw [List.length_append, List.length_singleton]; omega)
    · have k1 : ∃ r, pipe_row old now c sure = some (r, false) := by
        rw [pipe_row_eq, if_neg (by rw [eq_t]; omega), if_neg (by rw [eq_t]; omega), if_neg (by rw [eq_t]; omega), if_neg (by rw [eq_t]; omega)]
        exact ⟨_, rfl⟩
      obtain ⟨r, k1⟩ := k1
      rw [k1, bind_some_, if_pos (by rfl), if_pos (by rw [ne_t]; omega), if_pos (by rw [ne_t]; omega), if_pos (by rw [ne_t]; omega), if_pos (by rw [ne_t]; omega), wi_nat (by omega)]
      exact ih (i + 1) acc (by omega) (by omega) (by omega)
theorem alerts_self (s : List Al) (hs : s.length ≤ 400) : slices_Equal_api_Alert s s = some true := by
  have p4 : ∀ (u i : Nat), s.length - i = u → i ≤ s.length → slices_Equal_api_Alert.p4 s s (s.length : Int) (i : Int) = some true := by
    intro u
    induction u with
    | zero =>
      intro i h1 h2
      rw [slices_Equal_api_Alert.p4_eq, if_neg (by rw [dt]; omega)]
    | succ u ih =>
      intro i h1 h2
      rw [slices_Equal_api_Alert.p4_eq, if_pos (by rw [dt]; omega), if_pos (by omega), if_pos (by omega), if_pos (by omega), if_pos (by omega), if_neg (by simp), wi_nat (by omega)]
      exact ih (i + 1) (by omega) (by omega)
  rw [slices_Equal_api_Alert_eq, if_neg (by simp)]
  exact p4 s.length 0 (by omega) (by omega)
theorem pipes_true : spylaw2_pipes = some true := callL_some.2 ⟨200, by kernel_rfl⟩
theorem PipeAlerts : ∀ (x0 : List (Int × ((Int × Int × Bool) × (Int × Int × Bool) × Int × Int × Bool) × (Int × Int × Bool) × (Int × Int × Bool) × (List Int) × Int)) (x1 : List (Int × ((Int × Int × Bool) × (Int × Int × Bool) × Int × Int × Bool) × (Int × Int × Bool) × (Int × Int × Bool) × (List Int) × Int)) (x2 : Int × Int × Bool) (x3 : Int) (x4 : Int), goodT Tryz.prog (.list false 68 (.prod (.int .i64) (.prod (.prod (.prod (.int .i64) (.prod (.int .i64) .bool)) (.prod (.prod (.int .i64) (.prod (.int .i64) .bool)) (.prod (.int .i64) (.prod (.int .i64) .bool)))) (.prod (.prod (.int .i64) (.prod (.int .i64) .bool)) (.prod (.prod (.int .i64) (.prod (.int .i64) .bool)) (.prod (.list false 3 (.int .i64)) (.int .i64))))))) x0 → goodT Tryz.prog (.list false 68 (.prod (.int .i64) (.prod (.prod (.prod (.int .i64) (.prod (.int .i64) .bool)) (.prod (.prod (.int .i64) (.prod (.int .i64) .bool)) (.prod (.int .i64) (.prod (.int .i64) .bool)))) (.prod (.prod (.int .i64) (.prod (.int .i64) .bool)) (.prod (.prod (.int .i64) (.prod (.int .i64) .bool)) (.prod (.list false 3 (.int .i64)) (.int .i64))))))) x1 → goodT Tryz.prog (.prod (.int .i64) (.prod (.int .i64) .bool)) x2 → goodT Tryz.prog (.int .i64) x3 → goodT Tryz.prog (.int .i64) x4 → spylaw2_PipeAlerts x0 x1 x2 x3 x4 = some true := by
  intro old now at_ first sure _ _ _ _ _
  have key : ∃ r e, pipe_Alerts old now at_ first sure = some (r, e) ∧ spyref2_AlertsOf old now at_ first sure = some (r, e) ∧ r.length ≤ 400 := by
    obtain ⟨l, e, h1, h2⟩ := between_spec old now
    rw [pipe_Alerts_eq, spyref2_AlertsOf_eq, h1, bind_some_, bind_some_]
    dsimp only
    by_cases he : e = 0
    · have t1 : ¬ ((e != 0) = true) := by rw [ne_t]; exact fun q => q he
      simp only [if_neg t1]
      by_cases h3 : first < 1
      · have t2 : ¬ (decide (first < 1) = false) := by rw [df]; exact fun q => q h3
        simp only [if_neg t2]
        exact ⟨_, _, rfl, rfl, by simp⟩
      · have t2 : decide (first < 1) = false := by rw [df]; exact h3
        simp only [if_pos t2]
        by_cases h4 : first > 1073741824
        · have t3 : decide (first > 1073741824) = true := by rw [dt]; exact h4
          simp only [if_pos t3]
          exact ⟨_, _, rfl, rfl, by simp⟩
        · have t3 : ¬ (decide (first > 1073741824) = true) := by rw [dt]; exact h4
          simp only [if_neg t3]
          obtain ⟨r, k1, k2, k3⟩ := alerts_loop old now first sure at_ l (h2 he).1 (h2 he).2 l.length 0 [] (by omega) (by omega) (by simp)
          exact ⟨r, 0, k1, k2, k3⟩
    · have t1 : (e != 0) = true := by rw [ne_t]; exact he
      simp only [if_pos t1]
      exact ⟨_, _, rfl, rfl, by simp⟩
  obtain ⟨r, e, h1, h2, h3⟩ := key
  rw [spylaw2_PipeAlerts_eq, pipes_true, bind_some_, if_neg (by decide), h1, bind_some_, h2, bind_some_, if_pos (by simp), alerts_self r h3]
  rfl

end Go.Proofs.YtfnflhfdpbekeaaGreatDoor.Pure
