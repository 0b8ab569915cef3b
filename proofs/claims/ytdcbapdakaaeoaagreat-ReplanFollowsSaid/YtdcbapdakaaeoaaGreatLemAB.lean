/- Windows, programmes, slews, aims. -/
import Derived.Test.YtdcbapdakaaeoaaGreatEA0
import Derived.Test.YtdcbapdakaaeoaaGreatEA1
import Derived.Test.YtdcbapdakaaeoaaGreatEA2
import Derived.Test.YtdcbapdakaaeoaaGreatEA3
import Derived.Test.YtdcbapdakaaeoaaGreatEA4
import Derived.Test.YtdcbapdakaaeoaaGreatEA5
import Derived.Test.YtdcbapdakaaeoaaGreatEA6
import Derived.Test.YtdcbapdakaaeoaaGreatEA7
import Derived.Test.YtdcbapdakaaeoaaGreatPl
import Derived.Test.YtdcbapdakaaeoaaGreatLemAA
namespace Go.Proofs.YtdcbapdakaaeoaaGreat.Pure
set_option linter.unusedVariables false
set_option linter.unusedSimpArgs false
open Go Go.RowKit Go.Proofs.YtdcbapdakaaeoaaGreat.Pv Go.Proofs.YtdcbapdakaaeoaaGreat.Pl Go.Proofs.YtdcbapdakaaeoaaGreat.EA

/-! Slots that are closed: the program's reason is the reference's. -/
abbrev Req : Type := Int × Int × (Int × Int × Int) × Int × Int × Int × Int × Int × Int × Int × Int
theorem height_same (n : Night) (v : Int × Int × Int) (k : Int) : window_height n v k = spyref2_Height n v k ∧ Def (spyref2_Height n v k) := by
  rw [window_height_eq, spyref2_Height_eq, window_when_eq, spyref2_Times_eq, bind_some_]
  exact ⟨rfl, (sidereal_def _ _).bind fun _ _ => (height_def _ _ _).bind fun _ _ => .mk _⟩
theorem dark_same (n : Night) (k : Int) : window_dark n k = spyref2_DarkIn n k ∧ Def (spyref2_DarkIn n k) := by
  obtain ⟨h1, b, h2⟩ := height_same n n.2.2.2.2.2.1 k
  rw [window_dark_eq, spyref2_DarkIn_eq, h1, h2, bind_some_, bind_some_, window_atMost_eq, bind_id]
  exact ⟨rfl, Def.ite (fun _ => .mk _) (fun _ => .mk _)⟩
theorem closed_same (n : Night) (r : Req) (k : Int) (h0 : 0 ≤ k) (h1 : k < (n.2.2.2.2.2.2.2.2.length : Int)) : Same (fun _ => True) (window_why n r k) (spyref2_Closed n r k) := by
  obtain ⟨d1, d, d2⟩ := dark_same n k
  obtain ⟨a1, a, a2⟩ := height_same n r.2.2.1 k
  obtain ⟨m1, m, m2⟩ := height_same n n.2.2.2.2.2.2.1 k
  obtain ⟨c, hc⟩ := cosine_def r.2.2.1 n.2.2.2.2.2.2.1
  rw [window_why_eq, spyref2_Closed_eq, d1, d2, a1, a2, m1, m2, hc]
  simp only [bind_some_, window_atLeast_eq, window_atMost_eq]
  refine .ite Iff.rfl (fun _ => .mk _ trivial) (fun _ => .ite Iff.rfl (fun _ => .ite Iff.rfl (fun _ => .ite Iff.rfl (fun _ => .mk _ trivial) (fun _ => ?_)) (fun q => absurd h1 q)) (fun q => absurd h0 q))
  obtain ⟨ca, cb, cu⟩ := c
  obtain ⟨ma, mb, mu⟩ := m
  obtain ⟨aa, ab, au⟩ := a
  have h3 : ∀ x : Int, decide (aa ≥ x) = !decide (aa < x) := by
    intro x
    by_cases h : aa < x
    · simp [h]
    · simp [h]; omega
  have h4 : ∀ x y : Int, decide (x ≤ y) = !decide (x > y) := by
    intro x y
    rw [Bool.eq_iff_iff]
    simp
  have h5 : decide (mb ≤ -1) = !decide (mb ≥ 0) := by
    by_cases h : mb ≥ 0
    · simp [h]; omega
    · simp [h]; omega
  simp only
  rw [h3, h4 cb, h5]
  generalize decide (aa < r.2.2.2.2.2.2.2.1) = A
  generalize decide (cb > r.2.2.2.2.2.2.2.2.1) = C
  generalize decide (mb ≥ 0) = M
  cases au <;> cases cu <;> cases mu <;> cases A <;> cases C <;> cases M <;> exact ⟨_, rfl, rfl, trivial⟩
/-! Requests. -/
theorem request_same (r : Req) : Same (fun _ => True) (prop_CheckRequest r) (spyref2_RequestFault r) := by
  have p12 : Same (fun _ => True) (prop_CheckRequest.p12 r) (spyref2_RequestFault.p11 r) := by
    rw [prop_CheckRequest.p12_eq, spyref2_RequestFault.p11_eq]
    simp only [within_in, in_val, bind_some_]
    repeat' (refine Same.ite Iff.rfl (fun _ => ?_) (fun _ => ?_))
    all_goals exact .mk _ trivial
  obtain ⟨e, s1, d1⟩ := dir_check r.2.2.1
  rw [prop_CheckRequest_eq, spyref2_RequestFault_eq, s1, d1]
  simp only [within_in, in_val, bind_some_]
  refine .ite Iff.rfl (fun _ => .mk _ trivial) (fun _ => .ite (by simp) (fun _ => .mk _ trivial) (fun _ => .ite Iff.rfl (fun _ => .ite Iff.rfl (fun _ => .mk _ trivial) (fun hv => ?_)) (fun _ => .mk _ trivial)))
  rw [not_t, df] at hv
  have hv' : 1 ≤ r.2.2.2.2.1 ∧ r.2.2.2.2.1 ≤ 4 := Classical.byContradiction hv
  refine .ite Iff.rfl (fun h1 => .ite Iff.rfl (fun _ => .ite Iff.rfl (fun _ => .mk _ trivial) (fun _ => ?_)) (fun _ => .mk _ trivial)) (fun h1 => ?_)
  · rw [eq_t] at h1
    rw [spyref2_RequestFault.p9_eq]
    exact .right (fun q => by rw [dt] at q; omega) (fun _ => p12)
  · rw [eq_t] at h1
    rw [spyref2_RequestFault.p9_eq]
    simp only [in_val, bind_some_]
    refine .right (fun _ => ?_) (fun q => by rw [dt] at q; omega)
    exact .ite Iff.rfl (fun _ => .ite Iff.rfl (fun _ => .mk _ trivial) (fun _ => p12)) (fun _ => .mk _ trivial)
theorem request_len {r : Req} (h : spyref2_RequestFault r = some 0) : 1 ≤ r.2.2.2.1 ∧ r.2.2.2.1 ≤ 8 ∧ 1 ≤ r.2.2.2.2.1 ∧ r.2.2.2.2.1 ≤ 4 := by
  obtain ⟨e, s1, d1⟩ := dir_check r.2.2.1
  rw [spyref2_RequestFault_eq, in_val, in_val, in_val, d1] at h
  simp only [bind_some_] at h
  obtain ⟨_, h⟩ := ite_1 (by omega) h
  obtain ⟨_, h⟩ := ite_1 (by omega) h
  obtain ⟨h1, h⟩ := ite_0 (by omega) h
  obtain ⟨h2, h⟩ := ite_1 (by omega) h
  rw [not_f, dt] at h1
  rw [not_t, df] at h2
  have : 1 ≤ r.2.2.2.2.1 ∧ r.2.2.2.2.1 ≤ 4 := Classical.byContradiction h2
  exact ⟨h1.1, h1.2, this⟩
/-! Programmes: the program's check is the reference's. -/
abbrev Progr : Type := List (ByteArray × Int) × List Req
theorem keyI {a b : Int} : keyEq (.int .i64) a b = true ↔ a = b := by rw [keyEq]; simp
theorem toList_inj {a b : ByteArray} : (a.toList == b.toList) = true ↔ a = b := by
  constructor
  · intro h
    have h2 : (a == b) = true := by rw [beq_toListBytes]; exact h
    have h3 : (a.data == b.data) = true := h2
    exact ByteArray.ext (by simpa using h3)
  · rintro rfl
    simp
theorem keyS {a b : ByteArray} : keyEq .str a b = true ↔ a = b := by rw [keyEq]; exact toList_inj
theorem look_upd {k v : Ty} (hk : ∀ a b : k.den, keyEq k a b = true ↔ a = b) (x : k.den) (y : v.den) (z : k.den) : ∀ l : List (k.den × v.den), (z = x → lookM k v z (updM k v x y l) = some y) ∧ (z ≠ x → lookM k v z (updM k v x y l) = lookM k v z l)
  | [] => by
    constructor
    · intro h
      rw [updM, lookM, if_pos ((hk _ _).2 h)]
    · intro h
      rw [updM]
      show (if keyEq k z x = true then some y else none) = none
      rw [if_neg (fun q => h ((hk _ _).1 q))]
  | p :: r => by
    have ih := look_upd hk x y z r
    rw [updM]
    by_cases c : keyEq k x p.1 = true
    · have e := (hk _ _).1 c
      rw [if_pos c]
      constructor
      · intro h
        rw [lookM, if_pos ((hk _ _).2 (h.trans e))]
      · intro h
        rw [lookM, lookM, if_neg (fun q => h (((hk _ _).1 q).trans e.symm)), if_neg (fun q => h (((hk _ _).1 q).trans e.symm))]
    · rw [if_neg c]
      constructor
      · intro h
        rw [lookM, if_neg (fun q => c (by rw [← h]; exact q))]
        exact ih.1 h
      · intro h
        rw [lookM, lookM]
        by_cases d : keyEq k z p.1 = true
        · rw [if_pos d, if_pos d]
        · rw [if_neg d, if_neg d]
          exact ih.2 h
/-! Names. -/
theorem name_p4 (s : ByteArray) (hs : s.size ≤ 12) : ∀ (u k : Nat), s.size - k = u → k ≤ s.size → Same (fun _ => True) (prop_Name.p4 s k) (spyref2_NameOK.p4 s k) := by
  intro u
  induction u with
  | zero =>
    intro k h hk
    rw [prop_Name.p4_eq, spyref2_NameOK.p4_eq, if_neg (by rw [dt]; omega), if_neg (by rw [dt]; omega)]
    exact .mk _ trivial
  | succ u ih =>
    intro k h hk
    have a : decide ((k : Int) < (s.size : Int)) = true := by rw [dt]; omega
    have ih' := ih (k + 1) (by omega) (by omega)
    have p8 : ∀ sm : Bool, Same (fun _ => True) (prop_Name.p8 s k ((bytesOf s).getD (k : Int).toNat 0) sm) (spyref2_NameOK.p7 s k sm) := by
      intro sm
      rw [prop_Name.p8_eq, spyref2_NameOK.p7_eq]
      simp only [spyref2_NameOK.p8_eq, if_pos (show (0 : Int) ≤ k by omega), if_pos (show (k : Int) < s.size by omega), wi_nat (show k < 9223372036854775807 by omega)]
      generalize (bytesOf s).getD (k : Int).toNat 0 = c
      cases sm with
      | true =>
        simp only [Bool.not_true, Bool.false_eq_true, if_false]
        exact .right (fun _ => .right (fun _ => ih') (fun _ => ih')) (fun _ => ih')
      | false =>
        simp only [Bool.not_false, if_true]
        by_cases k0 : k = 0
        · subst k0
          refine .left (fun q => absurd q (by decide)) (fun _ => ?_)
          repeat' (refine .right (fun _ => ?_) (fun _ => ?_))
          all_goals first | exact .mk _ trivial | (rename_i q; exact absurd q (by decide))
        · have g : decide ((k : Int) > 0) = true := by rw [dt]; omega
          refine .left (fun _ => ?_) (fun q => absurd (show ((k : Int) == 0) = false by rw [eq_f]; omega) q)
          simp only [g, Bool.not_true, Bool.false_eq_true, if_false]
          by_cases c1 : c < 48
          · rw [if_neg (show ¬ decide (c < 48) = false by rw [df]; omega), if_neg (show ¬ decide (c ≥ 48) = true by rw [dt]; omega)]
            by_cases c3 : c = 45
            · rw [if_neg (by rw [ne_t]; exact fun q => q c3), if_pos (by rw [eq_t]; exact c3)]
              exact ih'
            · rw [if_pos (by rw [ne_t]; exact c3), if_neg (by rw [eq_t]; exact c3)]
              exact .mk _ trivial
          · rw [if_pos (show decide (c < 48) = false by rw [df]; omega), if_pos (show decide (c ≥ 48) = true by rw [dt]; omega)]
            by_cases c2 : c > 57
            · rw [if_pos (show decide (c > 57) = true by rw [dt]; omega), if_pos (show decide (c ≤ 57) = false by rw [df]; omega)]
              by_cases c3 : c = 45
              · rw [if_neg (by rw [ne_t]; exact fun q => q c3), if_pos (by rw [eq_t]; exact c3)]
                exact ih'
              · rw [if_pos (by rw [ne_t]; exact c3), if_neg (by rw [eq_t]; exact c3)]
                exact .mk _ trivial
            · rw [if_neg (show ¬ decide (c > 57) = true by rw [dt]; omega), if_neg (show ¬ decide (c ≤ 57) = false by rw [df]; omega)]
              exact ih'
    rw [prop_Name.p4_eq, spyref2_NameOK.p4_eq]
    simp only [if_pos a, if_pos (show (0 : Int) ≤ k by omega), if_pos (show (k : Int) < s.size by omega)]
    exact .ite (by simp) (fun _ => p8 _) (fun _ => p8 _)
theorem name_same (s : ByteArray) : Same (fun _ => True) (prop_Name s) (spyref2_NameOK s) := by
  rw [prop_Name_eq, spyref2_NameOK_eq]
  refine .ite (by rw [eq_f, df]; omega) (fun _ => .ite Iff.rfl (fun _ => .mk _ trivial) (fun h => ?_)) (fun _ => .mk _ trivial)
  rw [dt] at h
  exact name_p4 s (by omega) _ 0 rfl (by omega)
theorem proposal_same (p : ByteArray × Int) : Same (fun _ => True) (prop_CheckProposal p) (spyref2_ProposalFault p) := by
  rw [prop_CheckProposal_eq, spyref2_ProposalFault_eq]
  refine (name_same p.1).bind fun r _ => .ite Iff.rfl (fun _ => .mk _ trivial) (fun _ => ?_)
  rw [within_in, in_val, bind_some_]
  exact .ite Iff.rfl (fun _ => .mk _ trivial) (fun _ => .mk _ trivial)
/-! Requests of a programme. -/
def OkAt (p : Progr) (j : Nat) (h : j < p.2.length) : Prop := spyref2_RequestFault p.2[j] = some 0 ∧ 0 ≤ p.2[j].2.1 ∧ p.2[j].2.1 < p.1.length ∧ p.2[j].1 ∉ (p.2.take j).map (·.1)
theorem prog_p23 (p : Progr) (t53 : List Req) (t54 t55 : Int) (x : Req) (l : List Req) (hl : l.length ≤ 16) : ∀ (u k : Nat), l.length - k = u → k ≤ l.length → spyref2_ProgrammeFault.p23 t53 t54 t55 l l.length k p x = if x.1 ∈ (l.drop k).map (·.1) then some 7 else ((spyref2_In x.2.1 0 (IntKind.i64.wrap ((p.1.length : Int) - 1))).bind fun r => if (!r) = true then (some 8) else (spyref2_ProgrammeFault.p17 t53 t54 (IntKind.i64.wrap (t55 + 1)) p)) := by
  intro u
  induction u with
  | zero =>
    intro k h hk
    rw [spyref2_ProgrammeFault.p23_eq, if_neg (by rw [dt]; omega), List.drop_eq_nil_of_le (by omega), if_neg (by simp)]
  | succ u ih =>
    intro k h hk
    have hlt : k < l.length := by omega
    rw [spyref2_ProgrammeFault.p23_eq, if_pos (by rw [dt]; omega), if_pos (by omega), if_pos (by omega), toNat_nat, getD_nat _ _ hlt, wi_nat (by omega), List.drop_eq_getElem_cons hlt, List.map_cons]
    by_cases c : x.1 = l[k].1
    · rw [if_pos (by rw [eq_t]; exact c), if_pos (List.mem_cons.2 (.inl c))]
    · rw [if_neg (by rw [eq_t]; exact c), ih (k + 1) (by omega) (by omega)]
      by_cases d : x.1 ∈ (l.drop (k + 1)).map (·.1)
      · rw [if_pos d, if_pos (List.mem_cons.2 (.inr d))]
      · rw [if_neg d, if_neg (fun q => (List.mem_cons.1 q).elim c d)]
open Classical in
theorem prog_p10 (p : Progr) (t24 : List (ByteArray × Int)) (t25 t26 : Int) (x : ByteArray × Int) (l : List (ByteArray × Int)) (hl : l.length ≤ 16) : ∀ (u k : Nat), l.length - k = u → k ≤ l.length → spyref2_ProgrammeFault.p10 t24 t25 t26 l l.length k p x = if x.1 ∈ (l.drop k).map (·.1) then some 7 else spyref2_ProgrammeFault.p4 t24 t25 (IntKind.i64.wrap (t26 + 1)) p := by
  intro u
  induction u with
  | zero =>
    intro k h hk
    rw [spyref2_ProgrammeFault.p10_eq, if_neg (by rw [dt]; omega), List.drop_eq_nil_of_le (by omega), if_neg (by simp)]
  | succ u ih =>
    intro k h hk
    have hlt : k < l.length := by omega
    rw [spyref2_ProgrammeFault.p10_eq, if_pos (by rw [dt]; omega), if_pos (by omega), if_pos (by omega), toNat_nat, getD_nat _ _ hlt, wi_nat (by omega), List.drop_eq_getElem_cons hlt, List.map_cons]
    by_cases c : x.1 = l[k].1
    · rw [if_pos (toList_inj.2 c), if_pos (List.mem_cons.2 (.inl c))]
    · rw [if_neg (fun q => c (toList_inj.1 q)), ih (k + 1) (by omega) (by omega)]
      by_cases d : x.1 ∈ (l.drop (k + 1)).map (·.1)
      · rw [if_pos d, if_pos (List.mem_cons.2 (.inr d))]
      · rw [if_neg d, if_neg (fun q => (List.mem_cons.1 q).elim c d)]
/-- What a table of marks says. -/
theorem mark_upd {k : Ty} (hk : ∀ a b : k.den, keyEq k a b = true ↔ a = b) {b : List (k.den × Bool)} {names : List k.den} (hb : ∀ x, (lookM k .bool x b).getD false = true ↔ x ∈ names) (y : k.den) : ∀ x, (lookM k .bool x (updM k .bool y true b)).getD false = true ↔ x ∈ names ++ [y] := by
  intro x
  obtain ⟨h1, h2⟩ := look_upd (v := .bool) hk y true x b
  by_cases e : x = y
  · rw [h1 e]
    simp [e]
  · rw [h2 e]
    have := hb x
    simp only [List.mem_append, List.mem_singleton, e, or_false]
    exact this
theorem take_map {α β : Type} (f : α → β) (l : List α) {k : Nat} (h : k < l.length) : (l.take (k + 1)).map f = (l.take k).map f ++ [f l[k]] := by
  rw [List.take_succ_eq_append_getElem h, List.map_append]
  rfl
theorem prog_p16 (p : Progr) (h1 : p.1.length ≤ 6) (hl : p.2.length ≤ 16) : ∀ (u k : Nat) (b : List (Int × Bool)), p.2.length - k = u → k ≤ p.2.length → (∀ x, (lookM (.int .i64) .bool x b).getD false = true ↔ x ∈ (p.2.take k).map (·.1)) → Same (fun r => r = 0 → ∀ j, k ≤ j → (h : j < p.2.length) → OkAt p j h) (prop_Check.p16 p.2 p.2.length k p b) (spyref2_ProgrammeFault.p17 p.2 p.2.length k p) := by
  intro u
  induction u with
  | zero =>
    intro k b hu hk hb
    rw [prop_Check.p16_eq, spyref2_ProgrammeFault.p17_eq, if_neg (by rw [dt]; omega), if_neg (by rw [dt]; omega)]
    exact .mk _ (fun _ j h0 h1 => absurd h1 (by omega))
  | succ u ih =>
    intro k b hu hk hb
    have hlt : k < p.2.length := by omega
    have a : decide ((k : Int) < (p.2.length : Int)) = true := by rw [dt]; omega
    rw [prop_Check.p16_eq, spyref2_ProgrammeFault.p17_eq]
    simp only [if_pos a, if_pos (show (0 : Int) ≤ k by omega), if_pos (show (k : Int) < p.2.length by omega), if_pos (show (k : Int) ≤ p.2.length by omega), toNat_nat, getD_nat _ _ hlt, wi_nat (show k < 9223372036854775807 by omega)]
    obtain ⟨e, e1, e2, _⟩ := request_same p.2[k]
    rw [e1, e2, bind_some_, bind_some_]
    refine .ite Iff.rfl (fun q => .mk _ (fun z => by rw [z] at q; exact absurd q (by decide))) (fun q => ?_)
    have he : e = 0 := Classical.byContradiction fun z => q (by rw [ne_t]; exact z)
    subst he
    have pp := prog_p23 p p.2 p.2.length k p.2[k] (p.2.take k) (by simp; omega) _ 0 rfl (by omega)
    rw [show ((0 : Nat) : Int) = 0 from rfl, List.drop_zero] at pp
    rw [pp, within_in, in_val, bind_some_, wi_nat (by omega)]
    refine .ite (hb _) (fun _ => .mk _ (fun z => by cases z)) (fun hn => ?_)
    refine .ite Iff.rfl (fun _ => .mk _ (fun z => by cases z)) (fun hi => ?_)
    rw [not_t, df, wi (x := (p.1.length : Int) - 1) (by omega) (by omega)] at hi
    have hi' := Classical.byContradiction hi
    have := ih (k + 1) (updM (.int .i64) .bool p.2[k].1 true b) (by omega) (by omega) (by rw [take_map _ _ hlt]; exact mark_upd (fun _ _ => keyI) hb _)
    refine this.imp fun r hr hz j hj hjl => ?_
    by_cases ej : j = k
    · subst ej
      exact ⟨e2, hi'.1, by omega, fun q => hn ((hb _).2 q)⟩
    · exact hr hz j (by omega) hjl
open Classical in
theorem prog_p5 (p : Progr) (h1 : p.1.length ≤ 6) (hl : p.2.length ≤ 16) : ∀ (u k : Nat) (b : List (ByteArray × Bool)), p.1.length - k = u → k ≤ p.1.length → (∀ x, (lookM .str .bool x b).getD false = true ↔ x ∈ (p.1.take k).map (·.1)) → Same (fun r => r = 0 → ∀ j, (h : j < p.2.length) → OkAt p j h) (prop_Check.p5 p.1 p.1.length k p b) (spyref2_ProgrammeFault.p4 p.1 p.1.length k p) := by
  intro u
  induction u with
  | zero =>
    intro k b hu hk hb
    rw [prop_Check.p5_eq, spyref2_ProgrammeFault.p4_eq, if_neg (by rw [dt]; omega), if_neg (by rw [dt]; omega)]
    have := prog_p16 p h1 hl _ 0 [] rfl (by omega) (fun x => by simp [lookM])
    exact this.imp fun r hr hz j hj => hr hz j (by omega) hj
  | succ u ih =>
    intro k b hu hk hb
    have hlt : k < p.1.length := by omega
    have a : decide ((k : Int) < (p.1.length : Int)) = true := by rw [dt]; omega
    rw [prop_Check.p5_eq, spyref2_ProgrammeFault.p4_eq]
    simp only [if_pos a, if_pos (show (0 : Int) ≤ k by omega), if_pos (show (k : Int) < p.1.length by omega), if_pos (show (k : Int) ≤ p.1.length by omega), toNat_nat, getD_nat _ _ hlt, wi_nat (show k < 9223372036854775807 by omega)]
    obtain ⟨e, e1, e2, _⟩ := proposal_same p.1[k]
    rw [e1, e2, bind_some_, bind_some_]
    refine .ite Iff.rfl (fun q => .mk _ (fun z => by rw [z] at q; exact absurd q (by decide))) (fun q => ?_)
    have pp := prog_p10 p p.1 p.1.length k p.1[k] (p.1.take k) (by simp; omega) _ 0 rfl (by omega)
    rw [show ((0 : Nat) : Int) = 0 from rfl, List.drop_zero] at pp
    rw [pp, wi_nat (by omega)]
    refine .ite (hb _) (fun _ => .mk _ (fun z => by cases z)) (fun hn => ?_)
    exact ih (k + 1) _ (by omega) (by omega) (by rw [take_map _ _ hlt]; exact mark_upd (fun _ _ => keyS) hb _)
structure ProgOk (p : Progr) : Prop where
  names : p.1.length ≤ 6
  reqs : p.2.length ≤ 16
  at_ : ∀ j, (h : j < p.2.length) → OkAt p j h
theorem prog_same (p : Progr) : Same (fun r => r = 0 → ProgOk p) (prop_Check p) (spyref2_ProgrammeFault p) := by
  rw [prop_Check_eq, spyref2_ProgrammeFault_eq]
  refine .ite Iff.rfl (fun h1 => .ite Iff.rfl (fun _ => .mk _ (fun z => by cases z)) (fun h2 => ?_)) (fun _ => .mk _ (fun z => by cases z))
  rw [df] at h1
  rw [dt] at h2
  have := prog_p5 p (by omega) (by omega) _ 0 [] rfl (by omega) (fun x => by simp [lookM])
  exact this.imp fun r hr hz => ⟨by omega, by omega, hr hz⟩
/-! Slews are defined. -/
abbrev Ax := Int × Int × Int × Int
abbrev AxS := Int × Int × Int × Bool
def fault (mn mx sp ac : Int) : Int :=
  if mn < -17179869184 ∨ mx > 17179869184 then 4 else if mn > mx then 11 else if sp < 16777216 ∨ sp > 1073741824 ∨ ac > sp ∨ ac < 1 ∨ ac * 64 < sp then 4 else 0
structure AxOk (mn mx sp ac : Int) : Prop where
  lo : -17179869184 ≤ mn
  hi : mx ≤ 17179869184
  le : mn ≤ mx
  s0 : 16777216 ≤ sp
  s1 : sp ≤ 1073741824
  a0 : 1 ≤ ac
  a1 : ac ≤ sp
  a2 : sp ≤ 64 * ac
theorem fault_ok {mn mx sp ac : Int} (h : fault mn mx sp ac = 0) : AxOk mn mx sp ac := by
  unfold fault at h
  split at h
  · cases h
  · split at h
    · cases h
    · split at h
      · cases h
      · exact ⟨by omega, by omega, by omega, by omega, by omega, by omega, by omega, by omega⟩
theorem f4a {mn mx sp ac : Int} (h : mn < -17179869184 ∨ mx > 17179869184) : some 4 = some (fault mn mx sp ac) := by rw [fault, if_pos h]
theorem f11 {mn mx sp ac : Int} (h : ¬ (mn < -17179869184 ∨ mx > 17179869184)) (k : mn > mx) : some 11 = some (fault mn mx sp ac) := by rw [fault, if_neg h, if_pos k]
theorem f4b {mn mx sp ac : Int} (h : ¬ (mn < -17179869184 ∨ mx > 17179869184)) (k : ¬ mn > mx) (l : sp < 16777216 ∨ sp > 1073741824 ∨ ac > sp ∨ ac < 1 ∨ ac * 64 < sp) : some 4 = some (fault mn mx sp ac) := by rw [fault, if_neg h, if_neg k, if_pos l]
theorem f0 {mn mx sp ac : Int} (h : ¬ (mn < -17179869184 ∨ mx > 17179869184)) (k : ¬ mn > mx) (l : ¬ (sp < 16777216 ∨ sp > 1073741824 ∨ ac > sp ∨ ac < 1 ∨ ac * 64 < sp)) : some 0 = some (fault mn mx sp ac) := by rw [fault, if_neg h, if_neg k, if_neg l]
theorem check_eq (mn mx sp ac : Int) : slew_CheckAxis (mn, mx, sp, ac) = some (fault mn mx sp ac) := by
  simp only [slew_CheckAxis_eq, dt, df, ite_not]
  repeat' (refine ite_eq (fun _ => ?_) (fun _ => ?_))
  all_goals first
    | exact f4a (by omega)
    | exact f11 (by omega) (by omega)
    | exact f4b (by omega) (by omega) (by omega)
    | (have := wi (x := ac * 64) (by omega) (by omega); first | exact f4b (by omega) (by omega) (by omega) | exact f0 (by omega) (by omega) (by omega))
theorem fault_eq (mn mx sp ac : Int) : spyref2_AxisFault (mn, mx, sp, ac) = some (fault mn mx sp ac) := by
  simp only [spyref2_AxisFault_eq, dt, df, ite_not]
  repeat' (refine ite_eq (fun _ => ?_) (fun _ => ?_))
  all_goals first
    | exact f4a (by omega)
    | exact f11 (by omega) (by omega)
    | exact f4b (by omega) (by omega) (by omega)
    | (have := wi (x := 64 * ac) (by omega) (by omega); first | exact f4b (by omega) (by omega) (by omega) | exact f0 (by omega) (by omega) (by omega))
theorem in_eq (mn mx sp ac p : Int) : slew_In (mn, mx, sp, ac) p = some (decide (mn ≤ p ∧ p ≤ mx)) := by
  simp only [slew_In_eq, dt]
  refine ite_eq (fun h => ?_) (fun h => ?_)
  · simp [h]
  · simp [h]
theorem within_eq (mn mx sp ac p : Int) : spyref2_Within (mn, mx, sp, ac) p = some (decide (mn ≤ p ∧ p ≤ mx)) := by
  simp only [spyref2_Within_eq, dt]
  refine ite_eq (fun h => ?_) (fun h => ?_)
  · simp only [show mn ≤ p from h, true_and]
  · simp only [show ¬ mn ≤ p from h, false_and, decide_false]
def mn (a b : Int) : Int := if b < a then b else a
/-! The braking distance, and the greatest speed. -/
def sk : Nat → Int
  | 0 => 0
  | k + 1 => sk k + k
def brk (A : Int) : Nat → Int → Int
  | 0, _ => 0
  | n + 1, v => if v > 0 then v + brk A n (v - A) else 0
theorem brk_nonneg (A : Int) : ∀ (n : Nat) (v : Int), 0 ≤ brk A n v
  | 0, _ => Int.le_refl _
  | n + 1, v => by
    unfold brk
    split
    · have := brk_nonneg A n (v - A)
      omega
    · exact Int.le_refl _
theorem brk_mono (A : Int) : ∀ (n : Nat) (v v' : Int), v ≤ v' → brk A n v ≤ brk A n v'
  | 0, _, _, _ => Int.le_refl _
  | n + 1, v, v', h => by
    unfold brk
    have := brk_mono A n (v - A) (v' - A) (by omega)
    have := brk_nonneg A n (v' - A)
    split <;> split <;> omega
theorem brk_lower (A : Int) (hA : 1 ≤ A) : ∀ (n k : Nat) (v : Int), k ≤ n → (k : Int) * v - A * sk k ≤ brk A n v
  | n, 0, v, _ => by
    have := brk_nonneg A n v
    simp [sk]
    omega
  | 0, k + 1, v, h => by omega
  | n + 1, k + 1, v, h => by
    have ih := brk_lower A hA n k (v - A) (by omega)
    have e : ((k + 1 : Nat) : Int) * v - A * sk (k + 1) = v + ((k : Int) * (v - A) - A * sk k) := by
      simp only [sk]
      push_cast
      grind
    unfold brk
    split
    · omega
    · rename_i hv
      have h1 : ((k + 1 : Nat) : Int) * v ≤ 0 := Int.mul_nonpos_of_nonneg_of_nonpos (by omega) (by omega)
      have h2 : 0 ≤ sk (k + 1) := by
        clear ih e h h1
        have : ∀ j, 0 ≤ sk j := fun j => by
          induction j with
          | zero => exact Int.le_refl _
          | succ j ih => simp only [sk]; omega
        exact this _
      have h3 : 0 ≤ A * sk (k + 1) := Int.mul_nonneg (by omega) h2
      omega
theorem sk_nonneg : ∀ k, 0 ≤ sk k
  | 0 => Int.le_refl _
  | k + 1 => by
    have := sk_nonneg k
    simp only [sk]
    omega
theorem brk_eq (A : Int) (hA : 1 ≤ A) : ∀ (n k : Nat) (v : Int), k ≤ n → ((k : Int) - 1) * A ≤ v → v ≤ (k : Int) * A → 0 ≤ v → brk A n v = (k : Int) * v - A * sk k
  | n, 0, v, _, _, h1, h0 => by
    have hv : v = 0 := by
      have : ((0 : Nat) : Int) * A = 0 := by simp
      omega
    subst hv
    cases n <;> simp [brk, sk]
  | 0, k + 1, v, h, _, _, _ => by omega
  | n + 1, k + 1, v, h, hl, hu, h0 => by
    have e : ((k + 1 : Nat) : Int) * v - A * sk (k + 1) = v + ((k : Int) * (v - A) - A * sk k) := by
      simp only [sk]
      push_cast
      grind
    have hl' : ((k : Int)) * A ≤ v := by
      have : (((k + 1 : Nat) : Int) - 1) * A = (k : Int) * A := by
        push_cast
        grind
      omega
    have hu' : v ≤ (k : Int) * A + A := by
      have : ((k + 1 : Nat) : Int) * A = (k : Int) * A + A := by
        push_cast
        grind
      omega
    have hm : ((k : Int) - 1) * A = (k : Int) * A - A := by grind
    rw [e]
    unfold brk
    by_cases hv : v > 0
    · rw [if_pos hv]
      by_cases hk : k = 0
      · subst hk
        have : brk A n (v - A) = 0 := by
          cases n with
          | zero => rfl
          | succ n =>
            unfold brk
            rw [if_neg (by omega)]
        rw [this]
        simp [sk]
      · by_cases hva : 0 ≤ v - A
        · rw [brk_eq A hA n k (v - A) (by omega) (by omega) (by omega) hva]
        · exfalso
          have : A ≤ (k : Int) * A := by
            have h2 : (1 : Int) * A ≤ (k : Int) * A := Int.mul_le_mul_of_nonneg_right (by omega) (by omega)
            omega
          omega
    · have hv0 : v = 0 := by omega
      subst hv0
      rw [if_neg (by omega)]
      have hk : k = 0 := by
        by_cases hk : k = 0
        · exact hk
        · exfalso
          have h2 : (1 : Int) * A ≤ (k : Int) * A := Int.mul_le_mul_of_nonneg_right (by omega) (by omega)
          omega
      subst hk
      simp [sk]
/-- The greatest speed, at most S, whose braking distance is at most d. -/
structure IsFast (S A d r : Int) : Prop where
  r0 : 0 ≤ r
  r1 : r ≤ S
  le : brk A 65 r ≤ d
  gt : r = S ∨ d < brk A 65 (r + 1)
theorem fast_uniq {S A d r r' : Int} (h : IsFast S A d r) (h' : IsFast S A d r') : r = r' := by
  obtain ⟨a0, a1, a2, a3⟩ := h
  obtain ⟨b0, b1, b2, b3⟩ := h'
  rcases Int.lt_trichotomy r r' with c | c | c
  · have := brk_mono A 65 (r + 1) r' (by omega)
    omega
  · exact c
  · have := brk_mono A 65 (r' + 1) r (by omega)
    omega
theorem sk_two : ∀ k : Nat, 2 * sk k = (k : Int) * ((k : Int) - 1)
  | 0 => rfl
  | k + 1 => by
    have ih := sk_two k
    simp only [sk]
    push_cast
    grind
theorem sk_tdiv (k : Nat) : Int.tdiv ((k : Int) * ((k : Int) - 1)) 2 = sk k := by
  rw [← sk_two k, Int.tdiv_eq_ediv_of_nonneg (by have := sk_nonneg k; omega)]
  omega
theorem sk_mono {j k : Nat} (h : j ≤ k) : sk j ≤ sk k := by
  induction k with
  | zero =>
    obtain rfl : j = 0 := by omega
    exact Int.le_refl _
  | succ k ih =>
    by_cases e : j = k + 1
    · subst e
      exact Int.le_refl _
    · have := ih (by omega)
      simp only [sk]
      omega
theorem ask_bound {A : Int} (h0 : 1 ≤ A) (h1 : A ≤ 1073741824) {k : Nat} (hk : k ≤ 66) : 0 ≤ A * sk k ∧ A * sk k ≤ 2303229231104 := by
  have a := sk_nonneg k
  have b : sk k ≤ 2145 := by
    have := sk_mono (j := k) (k := 66) hk
    have e : sk 66 = 2145 := by decide +kernel
    omega
  refine ⟨Int.mul_nonneg (by omega) a, ?_⟩
  have := Int.mul_le_mul h1 b a (by omega : (0 : Int) ≤ 1073741824)
  omega
theorem mn_le (a b : Int) : mn a b ≤ a ∧ mn a b ≤ b ∧ (mn a b = a ∨ mn a b = b) := by
  unfold mn
  split <;> omega
theorem fast_hit {S A d : Int} (a0 : 1 ≤ A) {k : Nat} (h1 : 1 ≤ k) (h2 : k ≤ 65) (hlo : A * sk k ≤ d) (hhi : d ≤ A * sk (k + 1)) (hd : 0 ≤ d) (hS : 0 ≤ S) :
    IsFast S A d (mn S ((d + A * sk k) / (k : Int))) ∧ 0 ≤ (d + A * sk k) / (k : Int) ∧ (d + A * sk k) / (k : Int) ≤ (k : Int) * A := by
  obtain ⟨q, hq⟩ : ∃ q, q = (d + A * sk k) / (k : Int) := ⟨_, rfl⟩
  have kp : (0 : Int) < k := by omega
  have ap : 0 ≤ A * sk k := Int.mul_nonneg (by omega) (sk_nonneg k)
  have q1 : (k : Int) * q ≤ d + A * sk k := by rw [hq]; exact Int.mul_ediv_self_le (by omega)
  have q2 : d + A * sk k < (k : Int) * q + k := by
    have := Int.lt_mul_ediv_self_add (x := d + A * sk k) (k := (k : Int)) kp
    rw [← hq] at this
    exact this
  have q0 : 0 ≤ q := by rw [hq]; exact Int.ediv_nonneg (by omega) (by omega)
  rw [← hq]
  clear hq
  have s2 := sk_two k
  have g5 : sk (k + 1) = sk k + k := rfl
  have e1 : A * sk (k + 1) = A * sk k + A * k := by rw [g5]; grind
  have u : q ≤ (k : Int) * A := by
    apply Int.le_of_mul_le_mul_left (a := (k : Int)) _ kp
    have : (k : Int) * ((k : Int) * A) = 2 * (A * sk k) + A * k := by grind
    omega
  have l : ((k : Int) - 1) * A ≤ q := by
    have e3 : (k : Int) * (((k : Int) - 1) * A) = 2 * (A * sk k) := by grind
    have e4 : (k : Int) * (q + 1) = (k : Int) * q + k := by grind
    have : (k : Int) * (((k : Int) - 1) * A) < (k : Int) * (q + 1) := by omega
    have := Int.lt_of_mul_lt_mul_left this (by omega)
    omega
  have f1 := brk_eq A a0 65 k q (by omega) l u q0
  have f2 := brk_lower A a0 65 k (q + 1) (by omega)
  have f3 : (k : Int) * (q + 1) = (k : Int) * q + k := by grind
  have m := mn_le S q
  refine ⟨⟨by omega, m.1, ?_, ?_⟩, q0, u⟩
  · have := brk_mono A 65 (mn S q) q m.2.1
    omega
  · rcases m.2.2 with m | m
    · exact Or.inl m
    · rw [m]
      exact Or.inr (by omega)
theorem tri_up {k : Nat} (hk : k ≤ 65) : IntKind.i64.wrap (Int.tdiv (IntKind.i64.wrap ((k : Int) * IntKind.i64.wrap ((k : Int) + 1))) 2) = sk (k + 1) := by
  have e : (k : Int) * ((k : Int) + 1) = ((k + 1 : Nat) : Int) * (((k + 1 : Nat) : Int) - 1) := by
    push_cast
    grind
  have c : (k : Int) * ((k : Int) + 1) ≤ 65 * 66 := Int.mul_le_mul (by omega) (by omega) (by omega) (by omega)
  have c0 : 0 ≤ (k : Int) * ((k : Int) + 1) := Int.mul_nonneg (by omega) (by omega)
  have g := sk_tdiv (k + 1)
  have g0 := sk_nonneg (k + 1)
  have s2 := sk_two (k + 1)
  rw [wi (x := (k : Int) + 1) (by omega) (by omega), wi (x := (k : Int) * ((k : Int) + 1)) (by omega) (by omega), e, g, wi (by omega) (by omega)]
theorem tri_down {k : Nat} (h1 : 1 ≤ k) (hk : k ≤ 65) : IntKind.i64.wrap (Int.tdiv (IntKind.i64.wrap ((k : Int) * IntKind.i64.wrap ((k : Int) - 1))) 2) = sk k := by
  have c : (k : Int) * ((k : Int) - 1) ≤ 65 * 66 := Int.mul_le_mul (by omega) (by omega) (by omega) (by omega)
  have c0 : 0 ≤ (k : Int) * ((k : Int) - 1) := Int.mul_nonneg (by omega) (by omega)
  have g := sk_tdiv k
  have g0 := sk_nonneg k
  have s2 := sk_two k
  rw [wi (x := (k : Int) - 1) (by omega) (by omega), wi (x := (k : Int) * ((k : Int) - 1)) (by omega) (by omega), g, wi (by omega) (by omega)]
theorem fast_end {mn_ mx sp ac d : Int} (h : AxOk mn_ mx sp ac) (hlt : ac * sk 65 < d) : IsFast sp ac d sp := by
  obtain ⟨_, _, _, s0, s1, a0, a1, a2⟩ := h
  have e : sk 65 = 2080 := by decide +kernel
  have e2 : sk 64 = 2016 := by decide +kernel
  rw [e] at hlt
  have m := brk_mono ac 65 sp (64 * ac) (by omega)
  have q := brk_eq ac a0 65 64 (64 * ac) (by omega) (by omega) (by omega) (by omega)
  rw [e2] at q
  exact ⟨by omega, Int.le_refl _, by omega, Or.inl rfl⟩
theorem fast_loop {mn_ mx sp ac d : Int} (h : AxOk mn_ mx sp ac) (hd : 0 ≤ d) : ∀ (n k : Nat), k + n = 65 → 1 ≤ k → ac * sk k < d ∨ k = 1 → ∃ r, slew_fastest.p2 d (k : Int) (mn_, mx, sp, ac) = some r ∧ IsFast sp ac d r
  | 0, k, hk, _, hlt => by
    obtain rfl : k = 65 := by omega
    exact ⟨sp, by rw [slew_fastest.p2_eq]; simp only [dt]; rw [if_neg (by omega)], fast_end h (by omega)⟩
  | n + 1, k, hk, h1, hlt => by
    have s0 := h.s0
    have s1 := h.s1
    have a0 := h.a0
    have a1 := h.a1
    have b1 := ask_bound (A := ac) a0 (by omega) (k := k + 1) (by omega)
    have b0 := ask_bound (A := ac) a0 (by omega) (k := k) (by omega)
    rw [slew_fastest.p2_eq]
    simp only [dt]
    rw [if_pos (by omega), tri_up (by omega), tri_down h1 (by omega), wi (x := ac * sk (k + 1)) (by omega) (by omega), wi (x := ac * sk k) (by omega) (by omega)]
    by_cases c : d ≤ ac * sk (k + 1)
    · have hlo : ac * sk k ≤ d := by
        rcases hlt with hlt | rfl
        · omega
        · simp [sk]; exact hd
      obtain ⟨f, q0, u⟩ := fast_hit (S := sp) a0 h1 (by omega) hlo c hd (by omega)
      have u2 : (k : Int) * ac ≤ 65 * 1073741824 := Int.mul_le_mul (by omega) (by omega) (by omega) (by omega)
      have kn : ¬ (k : Int) = 0 := by omega
      rw [if_pos c, if_neg kn, wi (x := d + ac * sk k) (by omega) (by omega), Int.tdiv_eq_ediv_of_nonneg (by omega), wi (by omega) (by omega)]
      exact ⟨_, rfl, f⟩
    · rw [if_neg c, wi_nat (i := k) (by omega)]
      exact fast_loop h hd n (k + 1) (by omega) (by omega) (Or.inl (by omega))
theorem fastest_is {mn_ mx sp ac d : Int} (h : AxOk mn_ mx sp ac) (hd : 0 ≤ d) : ∃ r, slew_fastest (mn_, mx, sp, ac) d = some r ∧ IsFast sp ac d r := by
  rw [slew_fastest_eq]
  exact fast_loop h hd 64 1 rfl (by omega) (Or.inr rfl)
theorem brk_zero (A : Int) : brk A 65 0 = 0 := rfl
theorem mod_eq (x : Int) (h0 : -9223372036854775808 ≤ x) (h1 : x ≤ 9223372036854775807) : slew_mod x = some (x % 4294967296) := by
  rw [slew_mod_eq]
  simp only [dt]
  have e : x.tmod 4294967296 = if 0 ≤ x ∨ x % 4294967296 = 0 then x % 4294967296 else x % 4294967296 - 4294967296 := by
    rw [Int.tmod_eq_emod]
    have : ((4294967296 : Int) ∣ x) ↔ x % 4294967296 = 0 := Int.dvd_iff_emod_eq_zero
    by_cases c : 0 ≤ x
    · simp [c]
    · by_cases d : x % 4294967296 = 0
      · simp [d, this.2 d]
      · have nd : ¬ (4294967296 : Int) ∣ x := fun h => d (this.1 h)
        simp [c, d, nd]
  rw [e]
  split
  · rw [if_neg (by omega)]
  · rw [if_pos (by omega), wi (by omega) (by omega)]
    congr 1
    omega
theorem abs_eq (x : Int) (h0 : -9223372036854775807 ≤ x) (h1 : x ≤ 9223372036854775807) : slew_abs x = some (x.natAbs : Int) := by
  rw [slew_abs_eq, wi (x := 0 - x) (by omega) (by omega)]
  congr 1
  split <;> omega
def Best (mn_ mx_ fr ang hi best : Int) : Prop := (mn_ ≤ best ∧ best ≤ mx_ ∧ best < hi ∧ (best - ang) % 4294967296 = 0) ∧ ∀ q, mn_ ≤ q → q ≤ mx_ → q < hi → (q - ang) % 4294967296 = 0 → (best - fr).natAbs < (q - fr).natAbs ∨ ((best - fr).natAbs = (q - fr).natAbs ∧ best ≤ q)
theorem best_uniq {mn_ mx_ fr ang hi hi' b b' : Int} (hh : mx_ < hi) (hh' : mx_ < hi') (h : Best mn_ mx_ fr ang hi b) (h' : Best mn_ mx_ fr ang hi' b') : b = b' := by
  have x := h.2 b' h'.1.1 h'.1.2.1 (by have := h'.1.2.1; omega) h'.1.2.2.2
  have y := h'.2 b h.1.1 h.1.2.1 (by have := h.1.2.1; omega) h.1.2.2.2
  omega
theorem best_next {mn_ mx_ fr ang p b : Int} (h : Best mn_ mx_ fr ang p b) (hp : (p - ang) % 4294967296 = 0) (h1 : mn_ ≤ p) (h2 : p ≤ mx_) : Best mn_ mx_ fr ang (p + 4294967296) (if (p - fr).natAbs < (b - fr).natAbs then p else b) := by
  obtain ⟨⟨b1, b2, b3, b4⟩, hb⟩ := h
  by_cases c : (p - fr).natAbs < (b - fr).natAbs
  · rw [if_pos c]
    refine ⟨⟨h1, h2, by omega, hp⟩, fun q q1 q2 q3 q4 => ?_⟩
    by_cases e : q < p
    · have := hb q q1 q2 e q4
      omega
    · have : q = p := by omega
      omega
  · rw [if_neg c]
    refine ⟨⟨b1, b2, by omega, b4⟩, fun q q1 q2 q3 q4 => ?_⟩
    by_cases e : q < p
    · exact hb q q1 q2 e q4
    · have : q = p := by omega
      omega
theorem best_over {mn_ mx_ fr ang p b hi : Int} (h : Best mn_ mx_ fr ang p b) (hp : (p - ang) % 4294967296 = 0) (h2 : mx_ < p) (h3 : p ≤ hi) : Best mn_ mx_ fr ang hi b := by
  obtain ⟨⟨b1, b2, b3, b4⟩, hb⟩ := h
  exact ⟨⟨b1, b2, by omega, b4⟩, fun q q1 q2 q3 q4 => hb q q1 q2 (by omega) q4⟩
theorem target_l0 {mn_ mx_ sp ac fr ang : Int} (l0 : -17179869184 ≤ mn_) (l1 : mx_ ≤ 17179869184) (l2 : mn_ ≤ mx_) (f0 : mn_ ≤ fr) (f1 : fr ≤ mx_) : ∀ (n : Nat) (p b : Int), mx_ - p < (n : Int) * 4294967296 → mn_ ≤ p → p ≤ mx_ + 4294967296 → (p - ang) % 4294967296 = 0 →
    (Best mn_ mx_ fr ang p b ∨ (b = p ∧ p ≤ mx_ ∧ p < mn_ + 4294967296)) → ∃ r, slew_Target.p10 fr p b (mn_, mx_, sp, ac) = some (r, 0) ∧ ∃ hi, mx_ < hi ∧ Best mn_ mx_ fr ang hi r := by
  intro n
  induction n with
  | zero =>
    intro p b h1 h2 h3 h4 h5
    rw [slew_Target.p10_eq]
    simp only [dt, df, not_t, not_f]
    rw [if_neg (by omega)]
    rcases h5 with h5 | h5
    · exact ⟨b, rfl, p, by omega, h5⟩
    · omega
  | succ n ih =>
    intro p b h1 h2 h3 h4 h5
    by_cases c : p ≤ mx_
    · have bb : -34359738368 ≤ b ∧ b ≤ 34359738368 := by
        rcases h5 with h5 | h5
        · have := h5.1
          omega
        · omega
      rw [slew_Target.p10_eq]
      simp only [dt, df, not_t, not_f]
      rw [if_pos c, wi (x := p - fr) (by omega) (by omega), wi (x := b - fr) (by omega) (by omega), abs_eq _ (by omega) (by omega), abs_eq _ (by omega) (by omega), bind_some_, bind_some_, wi (x := p + 4294967296) (by omega) (by omega)]
      have e : (((n + 1 : Nat)) : Int) * 4294967296 = (n : Int) * 4294967296 + 4294967296 := by omega
      rcases h5 with h5 | ⟨rfl, h5, h6⟩
      · have nx := best_next h5 h4 h2 c
        by_cases d : (p - fr).natAbs < (b - fr).natAbs
        · rw [if_pos d] at nx
          rw [if_pos (by omega)]
          exact ih _ _ (by omega) (by omega) (by omega) (by omega) (Or.inl nx)
        · rw [if_neg d] at nx
          rw [if_neg (by omega)]
          exact ih _ _ (by omega) (by omega) (by omega) (by omega) (Or.inl nx)
      · rw [if_neg (by omega)]
        refine ih _ _ (by omega) (by omega) (by omega) (by omega) (Or.inl ⟨⟨h2, c, by omega, h4⟩, fun q q1 q2 q3 q4 => ?_⟩)
        have : q = b := by omega
        omega
    · rw [slew_Target.p10_eq]
      simp only [dt, df, not_t, not_f]
      rw [if_neg c]
      rcases h5 with h5 | h5
      · exact ⟨b, rfl, p, by omega, h5⟩
      · omega
theorem target_def (mn_ mx_ sp ac fr ang : Int) (w : (Lit.int .i64 ang).wf = true) : ∃ r, slew_Target (mn_, mx_, sp, ac) fr ang = some r ∧ (r.2 = 0 → fault mn_ mx_ sp ac = 0 ∧ mn_ ≤ fr ∧ fr ≤ mx_ ∧ mn_ ≤ r.1 ∧ r.1 ≤ mx_) := by
  have wa := wf64 w
  rw [slew_Target_eq, check_eq, bind_some_]
  simp only [ne_t, not_t, df, dt, in_eq, bind_some_]
  by_cases hF : fault mn_ mx_ sp ac = 0
  · have h := fault_ok hF
    have l0 := h.lo
    have l1 := h.hi
    have l2 := h.le
    have nF : ¬ (fault mn_ mx_ sp ac ≠ 0) := fun q => q hF
    simp only [if_neg nF]
    by_cases c1 : mn_ ≤ fr ∧ fr ≤ mx_
    · have n1 : ¬ ¬ (mn_ ≤ fr ∧ fr ≤ mx_) := fun q => q c1
      simp only [if_neg n1]
      rw [mod_eq ang (by omega) (by omega), mod_eq mn_ (by omega) (by omega), bind_some_, bind_some_, wi (x := ang % 4294967296 - mn_ % 4294967296) (by omega) (by omega), mod_eq _ (by omega) (by omega), bind_some_, wi (x := mn_ + (ang % 4294967296 - mn_ % 4294967296) % 4294967296) (by omega) (by omega)]
      obtain ⟨p, hp⟩ : ∃ p, p = mn_ + (ang % 4294967296 - mn_ % 4294967296) % 4294967296 := ⟨_, rfl⟩
      rw [← hp]
      have pp : (p - ang) % 4294967296 = 0 ∧ mn_ ≤ p ∧ p < mn_ + 4294967296 := by omega
      by_cases c2 : p > mx_
      · rw [if_pos c2]
        exact ⟨(0, 4), rfl, fun h => by cases h⟩
      · rw [if_neg c2]
        obtain ⟨r, r1, hi, hh, hb⟩ := target_l0 (sp := sp) (ac := ac) l0 l1 l2 c1.1 c1.2 10 p p (ang := ang) (by omega) pp.2.1 (by omega) pp.1 (Or.inr ⟨rfl, by omega, pp.2.2⟩)
        exact ⟨(r, 0), r1, fun _ => ⟨hF, c1.1, c1.2, hb.1.1, hb.1.2.1⟩⟩
    · simp only [if_pos c1]
      exact ⟨(0, 4), rfl, fun h => by cases h⟩
  · simp only [if_pos hF]
    exact ⟨_, rfl, fun h => absurd h hF⟩
theorem ge_brk {A : Int} (hA : 1 ≤ A) (v : Int) : v ≤ brk A 65 v := by
  have := brk_lower A hA 65 1 v (by omega)
  simp [sk] at this
  omega
theorem fast_zero {S A r : Int} (hA : 1 ≤ A) (h : IsFast S A 0 r) : r = 0 := by
  have := ge_brk hA r
  have := h.r0
  have := h.le
  omega
theorem fast_pos {S A d r : Int} (hA : 1 ≤ A) (hS : 1 ≤ S) (hd : 0 < d) (h : IsFast S A d r) : 1 ≤ r ∧ r ≤ d := by
  have a := ge_brk hA r
  have b := h.r0
  have c := h.le
  refine ⟨?_, by omega⟩
  rcases h.gt with e | e
  · omega
  · by_cases q : r = 0
    · subst q
      have : brk A 65 (0 + 1) ≤ 1 := by
        have := brk_eq A hA 65 1 1 (by omega) (by simp) (by simp; omega) (by omega)
        simp [sk] at this
        simp
        omega
      omega
    · omega
theorem stop_eq {mn_ mx_ sp ac : Int} (h : AxOk mn_ mx_ sp ac) : slew_stop (mn_, mx_, sp, ac) = some (brk ac 65 sp) := by
  obtain ⟨_, _, _, s0, s1, a0, a1, a2⟩ := h
  obtain ⟨q, hq⟩ : ∃ q, q = (sp + ac - 1) / ac := ⟨_, rfl⟩
  have q1 : ac * q ≤ sp + ac - 1 := by rw [hq]; exact Int.mul_ediv_self_le (by omega)
  have q2 : sp + ac - 1 < ac * q + ac := by
    have := Int.lt_mul_ediv_self_add (x := sp + ac - 1) (k := ac) (by omega)
    rw [← hq] at this
    exact this
  have q0 : 0 ≤ q := by rw [hq]; exact Int.ediv_nonneg (by omega) (by omega)
  have q3 : q ≤ 64 := by
    have : ac * q < ac * 65 := by omega
    have := Int.lt_of_mul_lt_mul_left this (by omega)
    omega
  have q4 : 1 ≤ q := by
    by_cases e : q = 0
    · subst e
      simp at q2
      omega
    · omega
  have e1 : Int.tdiv (IntKind.i64.wrap (IntKind.i64.wrap (sp + ac) - 1)) ac = q := by
    rw [wi (x := sp + ac) (by omega) (by omega), wi (x := sp + ac - 1) (by omega) (by omega), Int.tdiv_eq_ediv_of_nonneg (by omega), ← hq]
  obtain ⟨k, rfl⟩ := Int.eq_ofNat_of_zero_le q0
  have b := ask_bound a0 (by omega) (k := k) (by omega)
  have c : (k : Int) * sp ≤ 64 * 1073741824 := Int.mul_le_mul (by omega) (by omega) (by omega) (by omega)
  have c0 : 0 ≤ (k : Int) * sp := Int.mul_nonneg (by omega) (by omega)
  have m : ((k : Int) - 1) * ac = ac * k - ac := by grind
  have m2 : (k : Int) * ac = ac * k := Int.mul_comm _ _
  rw [brk_eq ac a0 65 k sp (by omega) (by omega) (by omega) (by omega)]
  rw [slew_stop_eq]
  simp only
  rw [if_neg (by omega), e1, wi (x := (k : Int)) (by omega) (by omega), tri_down (by omega) (by omega), wi (x := ac * sk k) (by omega) (by omega), wi (x := (k : Int) * sp) (by omega) (by omega), wi (by omega) (by omega)]
theorem steps_run {mn_ mx_ sp ac : Int} (hF : fault mn_ mx_ sp ac = 0) : ∀ (m : Nat) (d v n : Int), d ≤ (m : Int) → d ≤ 68719476735 → 0 ≤ d → 0 ≤ v → v ≤ sp → 0 ≤ n → n + d ≤ 68719476735 →
    ∃ r, slew_Steps.p7 d v n (mn_, mx_, sp, ac) = some (r, 0) ∧ 0 ≤ r ∧ r ≤ 68719476736 := by
  intro m
  have h := fault_ok hF
  have s0 := h.s0
  have s1 := h.s1
  have a0 := h.a0
  have a1 := h.a1
  have zero : ∀ (v n : Int), 0 ≤ v → v ≤ sp → 0 ≤ n → n ≤ 68719476735 → ∃ r, slew_Steps.p7 0 v n (mn_, mx_, sp, ac) = some (r, 0) ∧ 0 ≤ r ∧ r ≤ 68719476736 := by
    intro v n h1 h2 h3 h4
    rw [slew_Steps.p7_eq, if_neg (by decide)]
    by_cases c : v > 0
    · exact ⟨n + 1, by rw [if_pos (by rw [dt]; exact c), wi (by omega) (by omega)], by omega, by omega⟩
    · exact ⟨n, by rw [if_neg (by rw [dt]; exact c)], by omega, by omega⟩
  induction m with
  | zero =>
    intro d v n h1 _ h2 h3 h4 h5 h6
    obtain rfl : d = 0 := by omega
    exact zero v n h3 h4 h5 (by omega)
  | succ m ih =>
    intro d v n h1 hd2 h2 h3 h4 h5 h6
    by_cases c : d > 0
    · obtain ⟨f, g5, g4⟩ := fastest_is h (d := d) (by omega)
      obtain ⟨p1, p2⟩ := fast_pos a0 (by omega) c g4
      have p3 := g4.r1
      have ml := mn_le (v + ac) f
      obtain ⟨x, hx⟩ : ∃ x, x = mn (v + ac) f := ⟨_, rfl⟩
      have x1 : 1 ≤ x ∧ x ≤ f := by omega
      rw [slew_Steps.p7_eq, if_pos (by rw [dt]; exact c), g5, stop_eq h, bind_some_, bind_some_]
      simp only [dt, eq_t]
      rw [if_neg (by omega), wi (x := v + ac) (by omega) (by omega), wi (x := n + 1) (by omega) (by omega)]
      have hx' : (if f < v + ac then f else v + ac) = x := by rw [hx]; rfl
      rw [hx']
      rw [wi (x := d - x) (by omega) (by omega)]
      by_cases e : x = sp
      · have fs : f = sp := by omega
        have bd : brk ac 65 sp ≤ d := by have := g4.le; rw [fs] at this; exact this
        have bp := brk_nonneg ac 65 sp
        rw [if_pos e, wi (x := d - brk ac 65 sp) (by omega) (by omega), Int.tdiv_eq_ediv_of_nonneg (by omega)]
        obtain ⟨q, hq⟩ : ∃ q, q = (d - brk ac 65 sp) / sp := ⟨_, rfl⟩
        have q1 : sp * q ≤ d - brk ac 65 sp := by rw [hq]; exact Int.mul_ediv_self_le (by omega)
        have q0 : 0 ≤ q := by rw [hq]; exact Int.ediv_nonneg (by omega) (by omega)
        have q2 : q ≤ sp * q := by
          have := Int.mul_le_mul_of_nonneg_right (a := 1) (b := sp) (c := q) (by omega) q0
          omega
        have gs := ge_brk a0 sp
        rw [← hq, wi (x := q) (by omega) (by omega)]
        by_cases qq : q > 1
        · have e1 : (q - 1) * sp = sp * q - sp := by grind
          have e2 : q - 1 ≤ (q - 1) * sp := by
            have := Int.mul_le_mul_of_nonneg_left (a := 1) (b := sp) (c := q - 1) (by omega) (by omega)
            omega
          rw [if_pos qq, wi (x := q - 1) (by omega) (by omega), wi (x := (q - 1) * sp) (by omega) (by omega), wi (x := d - (q - 1) * sp) (by omega) (by omega), wi (x := d - (q - 1) * sp - x) (by omega) (by omega), wi (x := n + (q - 1)) (by omega) (by omega), wi (x := n + (q - 1) + 1) (by omega) (by omega)]
          exact ih _ _ _ (by omega) (by omega) (by omega) (by omega) (by omega) (by omega) (by omega)
        · rw [if_neg qq]
          exact ih _ _ _ (by omega) (by omega) (by omega) (by omega) (by omega) (by omega) (by omega)
      · rw [if_neg e]
        exact ih _ _ _ (by omega) (by omega) (by omega) (by omega) (by omega) (by omega) (by omega)
    · obtain rfl : d = 0 := by omega
      exact zero v n h3 h4 h5 (by omega)
theorem steps_def (mn_ mx_ sp ac a b : Int) : ∃ r, slew_Steps (mn_, mx_, sp, ac) a b = some r ∧ 0 ≤ r.1 ∧ r.1 ≤ 68719476736 := by
  rw [slew_Steps_eq, check_eq, bind_some_, in_eq, in_eq]
  simp only [bind_some_]
  by_cases hF : fault mn_ mx_ sp ac = 0
  · have h := fault_ok hF
    have l0 := h.lo
    have l1 := h.hi
    rw [if_neg (by rw [ne_t]; exact fun q => q hF)]
    by_cases c1 : mn_ ≤ a ∧ a ≤ mx_
    · rw [if_pos (by rw [not_f, dt]; exact c1)]
      by_cases c2 : mn_ ≤ b ∧ b ≤ mx_
      · rw [if_neg (by rw [not_t, df]; exact fun q => q c2), wi (x := b - a) (by omega) (by omega), abs_eq (b - a) (by omega) (by omega), bind_some_]
        obtain ⟨r, r1, r2⟩ := steps_run hF (b - a).natAbs ((b - a).natAbs : Int) 0 0 (by omega) (by omega) (by omega) (by omega) (by have := h.s0; omega) (by omega) (by omega)
        exact ⟨_, r1, r2⟩
      · rw [if_pos (by rw [not_t, df]; exact c2)]
        exact ⟨_, rfl, by simp, by simp⟩
    · rw [if_neg (by rw [not_f, dt]; exact c1)]
      exact ⟨_, rfl, by simp, by simp⟩
  · rw [if_pos (by rw [ne_t]; exact hF)]
    exact ⟨_, rfl, by simp, by simp⟩
abbrev Mt : Type := (Int × Int × Int × Int) × (Int × Int × Int × Int) × Int × Int
structure MtOk (m : Mt) : Prop where
  az : fault m.1.1 m.1.2.1 m.1.2.2.1 m.1.2.2.2 = 0
  alt : fault m.2.1.1 m.2.1.2.1 m.2.1.2.2.1 m.2.1.2.2.2 = 0
  p : m.1.1 ≤ m.2.2.1 ∧ m.2.2.1 ≤ m.1.2.1
  q : m.2.1.1 ≤ m.2.2.2 ∧ m.2.2.2 ≤ m.2.1.2.1
theorem mount_all (m : Mt) : Same (fun e => e = 0 → MtOk m) (slew_CheckMount m) (spyref2_MountFault m) := by
  obtain ⟨⟨a0, a1, a2, a3⟩, ⟨b0, b1, b2, b3⟩, p, q⟩ := m
  rw [slew_CheckMount_eq, spyref2_MountFault_eq]
  simp only [check_eq, fault_eq, in_eq, within_eq, bind_some_]
  refine .ite Iff.rfl (fun h => .mk _ (fun k => by rw [ne_t] at h; exact absurd k h)) (fun h1 => .ite Iff.rfl (fun h => .mk _ (fun k => by rw [ne_t] at h; exact absurd k h)) (fun h2 => .ite Iff.rfl (fun h3 => .ite Iff.rfl (fun _ => .mk _ (fun k => by cases k)) (fun h4 => .mk _ fun _ => ?_)) (fun _ => .mk _ (fun k => by cases k))))
  rw [ne_t] at h1 h2
  rw [not_f, dt] at h3
  rw [not_t, df] at h4
  exact ⟨Classical.byContradiction h1, Classical.byContradiction h2, h3, Classical.byContradiction h4⟩
structure ToOk (m : Mt) (fr p : Int × Int) : Prop where
  mo : MtOk m
  f1 : m.1.1 ≤ fr.1 ∧ fr.1 ≤ m.1.2.1
  f2 : m.2.1.1 ≤ fr.2 ∧ fr.2 ≤ m.2.1.2.1
  p1 : m.1.1 ≤ p.1 ∧ p.1 ≤ m.1.2.1
  p2 : m.2.1.1 ≤ p.2 ∧ p.2 ≤ m.2.1.2.1
/-- Poses are defined; one that is reached lies within the limits. -/
theorem to_def (m : Mt) (fr aim : Int × Int) (w1 : (Lit.int .i64 aim.1).wf = true) (w2 : (Lit.int .i64 aim.2).wf = true) : ∃ r, slew_To m fr aim = some r ∧ (r.2.2 = 0 → ToOk m fr r.1) ∧ 0 ≤ r.2.1 ∧ r.2.1 ≤ 68719476736 := by
  rw [slew_To_eq]
  obtain ⟨e, he, _, hm⟩ := mount_all m
  rw [he, bind_some_]
  by_cases h0 : e = 0
  · have hm : MtOk m := hm h0
    rw [if_neg (by rw [ne_t]; exact fun q => q h0)]
    obtain ⟨⟨a0, a1, a2, a3⟩, ⟨b0, b1, b2, b3⟩, p, q⟩ := m
    obtain ⟨t, t2, t4⟩ := target_def a0 a1 a2 a3 fr.1 aim.1 w1
    obtain ⟨u, u2, u4⟩ := target_def b0 b1 b2 b3 fr.2 aim.2 w2
    rw [t2, bind_some_]
    by_cases ht : t.2 = 0
    · rw [if_neg (by rw [ne_t]; exact fun q => q ht), u2, bind_some_]
      by_cases hu : u.2 = 0
      · obtain ⟨x, x1, x2, x3⟩ := steps_def a0 a1 a2 a3 fr.1 t.1
        obtain ⟨y, y1, y2, y3⟩ := steps_def b0 b1 b2 b3 fr.2 u.1
        rw [if_neg (by rw [ne_t]; exact fun q => q hu), x1, y1, bind_some_, bind_some_]
        have q1 := t4 ht
        have q2 := u4 hu
        refine ⟨_, rfl, fun _ => ⟨hm, ⟨q1.2.1, q1.2.2.1⟩, ⟨q2.2.1, q2.2.2.1⟩, q1.2.2.2, q2.2.2.2⟩, ?_, ?_⟩ <;> (simp only; split <;> omega)
      · rw [if_pos (by rw [ne_t]; exact hu)]
        exact ⟨_, rfl, fun k => absurd k hu, by simp, by simp⟩
    · rw [if_pos (by rw [ne_t]; exact ht)]
      exact ⟨_, rfl, fun k => absurd k ht, by simp, by simp⟩
  · rw [if_pos (by rw [ne_t]; exact h0)]
    exact ⟨_, rfl, fun k => absurd k h0, by simp, by simp⟩
theorem mod_def (a b : Int) : Def (num_Mod a b) := by
  rw [num_Mod_eq]
  refine Def.ite (fun _ => .mk _) (fun hn => ?_)
  rw [dt] at hn
  exact .no (by omega) (Def.ite (fun _ => .mk _) (fun _ => .mk _))
/-! Aims are defined, after TrigTot. -/
theorem octant_p2 (y x : Int) : ∀ (u : Nat) (lo hi : Int), 0 ≤ lo → lo < hi → hi ≤ 536870913 → hi - lo ≤ u → Def (trig_octant.p2 y x lo hi) := by
  intro u
  induction u with
  | zero => intro lo hi h0 h1 h2 h3; omega
  | succ u ih =>
    intro lo hi h0 h1 h2 h3
    rw [trig_octant.p2_eq, wi (x := hi - lo) (by omega) (by omega), wi (x := lo + hi) (by omega) (by omega), Int.tdiv_eq_ediv_of_nonneg (by omega), wi (x := (lo + hi) / 2) (by omega) (by omega)]
    refine Def.ite (fun h => ?_) (fun _ => .mk _)
    rw [dt] at h
    refine (sin_def _).bind fun _ _ => (cos_def _).bind fun _ _ => Def.ite (fun _ => ?_) (fun _ => ?_)
    · exact ih _ _ (by omega) (by omega) (by omega) (by omega)
    · exact ih _ _ (by omega) (by omega) (by omega) (by omega)
theorem octant_def (y x : Int) : Def (trig_octant y x) := by
  rw [trig_octant_eq]
  exact octant_p2 y x 536870913 _ _ (by omega) (by omega) (by omega) (by omega)
theorem atan_def (y x : Int) : Def (trig_Atan2 y x) := by
  have p10 : ∀ a, Def (trig_Atan2.p10 y x a) := by
    intro a
    rw [trig_Atan2.p10_eq]
    repeat' (refine Def.ite (fun _ => ?_) (fun _ => ?_))
    all_goals exact .mk _
  have p5 : Def (trig_Atan2.p5 y x) := by
    rw [trig_Atan2.p5_eq]
    exact Def.ite (fun _ => (octant_def _ _).bind fun _ _ => p10 _) (fun _ => (octant_def _ _).bind fun _ _ => p10 _)
  rw [trig_Atan2_eq]
  repeat' (refine Def.ite (fun _ => ?_) (fun _ => ?_))
  all_goals first | exact .mk _ | exact p5
theorem horizonAim_def (s : Int × Int) (t : Int) (v : Int × Int × Int) : Def (horizon_Aim s t v) := by
  have c1 : ∀ a, Def (horizon_Aim_c1 a) := fun a => by rw [horizon_Aim_c1_eq]; exact (cos_def _).bind fun _ _ => .mk _
  have c2 : ∀ a, Def (horizon_Aim_c1_1 a) := fun a => by rw [horizon_Aim_c1_1_eq]; exact (sin_def _).bind fun _ _ => .mk _
  have sq : ∀ a, Def (num_Sqrt a) := fun a => by rw [num_Sqrt_eq]; exact (sqrtMul_def _ _).bind fun _ _ => .mk _
  rw [horizon_Aim_eq]
  refine (site_def _).bind fun _ _ => (sphereCheck_def _).bind fun _ _ => ?_
  rw [or_errs, bind_some_]
  refine Def.ite (fun _ => .mk _) (fun _ => ?_)
  exact (grow_def _).bind fun _ _ => (c1 _).bind fun _ _ => (c2 _).bind fun _ _ => (roundDiv_def _ _).bind fun _ _ => (roundDiv_def _ _).bind fun _ _ => (c1 _).bind fun _ _ => (c2 _).bind fun _ _ => (roundDiv_def _ _).bind fun _ _ => (roundDiv_def _ _).bind fun _ _ => (atan_def _ _).bind fun _ _ => (sq _).bind fun _ _ => (atan_def _ _).bind fun _ _ => Def.ite (fun _ => .mk _) (fun _ => .mk _)
theorem angle_def {r : Int × Int × Int × Int} (t : Int) : Def (scale_Angle r t) := by
  rw [scale_Angle_eq]
  refine (rate_def r).bind fun e he => Def.ite (fun hq => ?_) (fun _ => .mk _)
  have : e = 0 := by simpa using hq
  subst this
  have h2 := fracCheck_ok (rate_ok he).1
  repeat' (refine Def.ite (fun _ => ?_) (fun _ => ?_))
  all_goals first | exact .mk _ | skip
  rw [scale_angle_eq]
  refine Def.bind ?_ fun _ _ => (mod_def _ _).bind fun _ _ => .mk _
  exact (mulDiv_def _ _ _ (by omega)).bind fun _ _ => .mk _
/-! Aims, slots, tracks. -/
theorem aim_wf {n : Night} {v : Int × Int × Int} {k : Int} {p : (Int × Int) × Int} (h : slew_Aim n v k = some p) : (Lit.int .i64 p.1.1).wf = true ∧ (Lit.int .i64 p.1.2).wf = true := by
  have z : (Lit.int .i64 0).wf = true := by decide
  have at0 : ∀ {y x : Int} {r : Int × Int}, trig_Atan2 y x = some r → -4294967296 < r.1 ∧ r.1 < 4294967296 := by
    intro y x r h
    have tm : ∀ a : Int, -4294967296 < Int.tmod a 4294967296 ∧ Int.tmod a 4294967296 < 4294967296 := by
      intro a
      have h1 := Int.tmod_lt_of_pos a (show (0 : Int) < 4294967296 by omega)
      have h2 := Int.lt_tmod_of_pos a (show (0 : Int) < 4294967296 by omega)
      omega
    have p10 : ∀ a, trig_Atan2.p10 y x a = some r → -4294967296 < r.1 ∧ r.1 < 4294967296 := by
      intro a h
      rw [trig_Atan2.p10_eq] at h
      split at h <;> split at h <;> (cases h; exact tm _)
    have p5 : trig_Atan2.p5 y x = some r → -4294967296 < r.1 ∧ r.1 < 4294967296 := by
      intro h
      rw [trig_Atan2.p5_eq] at h
      obtain ⟨o1, q1⟩ := octant_def (if y < (IntKind.i64.wrap (0 - y)) then (IntKind.i64.wrap (0 - y)) else y) (if x < (IntKind.i64.wrap (0 - x)) then (IntKind.i64.wrap (0 - x)) else x)
      obtain ⟨o2, q2⟩ := octant_def (if x < (IntKind.i64.wrap (0 - x)) then (IntKind.i64.wrap (0 - x)) else x) (if y < (IntKind.i64.wrap (0 - y)) then (IntKind.i64.wrap (0 - y)) else y)
      rw [q1, q2, bind_some_, bind_some_] at h
      by_cases c : decide ((if y < (IntKind.i64.wrap (0 - y)) then (IntKind.i64.wrap (0 - y)) else y) ≤ (if x < (IntKind.i64.wrap (0 - x)) then (IntKind.i64.wrap (0 - x)) else x)) = true
      · rw [if_pos c] at h
        exact p10 _ h
      · rw [if_neg c] at h
        exact p10 _ h
    rw [trig_Atan2_eq] at h
    have four : ∀ e : Int, some ((0 : Int), e) = some r → -4294967296 < r.1 ∧ r.1 < 4294967296 := by
      intro e h
      cases h
      show -4294967296 < (0 : Int) ∧ (0 : Int) < 4294967296
      decide
    split at h
    · split at h
      · split at h
        · split at h
          · exact four _ h
          · split at h
            · split at h
              · exact four _ h
              · exact p5 h
            · exact p5 h
        · exact four _ h
      · exact four _ h
    · exact four _ h
  have wf : ∀ x : Int, -9223372036854775808 ≤ x → x ≤ 9223372036854775807 → (Lit.int .i64 x).wf = true := by
    intro x h0 h1
    simp [Lit.wf, IntKind.min, IntKind.max, IntKind.signed, IntKind.bits]
    omega
  have hz : ∀ {s : Int × Int} {t : Int} {v : Int × Int × Int} {p : (Int × Int) × Int}, horizon_Aim s t v = some p → (Lit.int .i64 p.1.1).wf = true ∧ (Lit.int .i64 p.1.2).wf = true := by
    intro s t v p h
    have c1 : ∀ a, Def (horizon_Aim_c1 a) := fun a => by rw [horizon_Aim_c1_eq]; exact (cos_def _).bind fun _ _ => .mk _
    have c2 : ∀ a, Def (horizon_Aim_c1_1 a) := fun a => by rw [horizon_Aim_c1_1_eq]; exact (sin_def _).bind fun _ _ => .mk _
    have sq : ∀ a, Def (num_Sqrt a) := fun a => by rw [num_Sqrt_eq]; exact (sqrtMul_def _ _).bind fun _ _ => .mk _
    rw [horizon_Aim_eq] at h
    obtain ⟨x0, e⟩ := site_def s
    rw [e, bind_some_] at h
    obtain ⟨x1, e⟩ := sphereCheck_def v
    rw [e, bind_some_] at h
    obtain ⟨x2, e⟩ : Def (cmp_Or_api_Errno [x0, x1]) := ⟨_, or_errs _ _⟩
    rw [e, bind_some_] at h
    split at h
    · cases h
      exact ⟨z, z⟩
    obtain ⟨r3, e⟩ := grow_def v
    rw [e, bind_some_] at h
    obtain ⟨_, e⟩ := c1 (IntKind.i64.wrap ((IntKind.i64.wrap (bitop .and .i64 t 4294967295)) + s.2))
    rw [e, bind_some_] at h
    obtain ⟨_, e⟩ := c2 (IntKind.i64.wrap ((IntKind.i64.wrap (bitop .and .i64 t 4294967295)) + s.2))
    rw [e, bind_some_] at h
    rw [Option.bind_eq_some_iff] at h
    obtain ⟨r6, _, h⟩ := h
    rw [Option.bind_eq_some_iff] at h
    obtain ⟨r7, _, h⟩ := h
    rw [Option.bind_eq_some_iff] at h
    obtain ⟨r8, _, h⟩ := h
    rw [Option.bind_eq_some_iff] at h
    obtain ⟨r9, _, h⟩ := h
    rw [Option.bind_eq_some_iff] at h
    obtain ⟨r10, _, h⟩ := h
    rw [Option.bind_eq_some_iff] at h
    obtain ⟨r11, _, h⟩ := h
    rw [Option.bind_eq_some_iff] at h
    obtain ⟨r12, h12, h⟩ := h
    rw [Option.bind_eq_some_iff] at h
    obtain ⟨r13, _, h⟩ := h
    rw [Option.bind_eq_some_iff] at h
    obtain ⟨r14, h14, h⟩ := h
    have b1 := at0 h12
    have b2 := at0 h14
    split at h
    · cases h
      have := wi_pos (r14.1 - 4294967296)
      exact ⟨wf _ (by simp only; omega) (by simp only; omega), wf _ this.1 this.2⟩
    · cases h
      exact ⟨wf _ (by simp only; omega) (by simp only; omega), wf _ (by simp only; omega) (by simp only; omega)⟩
  rw [slew_Aim_eq] at h
  obtain ⟨e, he⟩ := (night_eq n).2
  rw [(night_eq n).1, he, bind_some_] at h
  split at h
  · cases h
    exact ⟨z, z⟩
  split at h
  · split at h
    · cases h
      exact ⟨z, z⟩
    · obtain ⟨a, ha⟩ := angle_def (r := n.2.1) (IntKind.i64.wrap (n.2.2.1 + (IntKind.i64.wrap (k * n.2.2.2.1))))
      rw [ha, bind_some_, bind_id] at h
      exact hz h
  · cases h
    exact ⟨z, z⟩
theorem site_ok {n : Night} (ok : NightOk n) : horizon_CheckSite n.1 = some 0 := by
  have a := ok.lat
  have b := ok.lon
  rw [horizon_CheckSite_eq]
  simp only [dt, df]
  rw [if_pos (by omega), if_pos (by omega), if_pos (by omega), if_neg (by omega)]
theorem aim_def {n : Night} (hn : prop_CheckNight n = some 0) (ok : NightOk n) {v : Int × Int × Int} (hv : sphere_Check v = some 0) {k : Int} (h0 : 0 ≤ k) (h1 : k ≤ n.2.2.2.2.1) : ∃ a, slew_Aim n v k = some (a, 0) ∧ (Lit.int .i64 a.1).wf = true ∧ (Lit.int .i64 a.2).wf = true := by
  have key : ∃ a, slew_Aim n v k = some (a, 0) := by
    rw [slew_Aim_eq, hn, bind_some_, if_neg (by decide), if_pos (by rw [df]; omega), if_neg (by rw [dt]; omega)]
    obtain ⟨t, ht⟩ := angle_def (r := n.2.1) (IntKind.i64.wrap (n.2.2.1 + (IntKind.i64.wrap (k * n.2.2.2.1))))
    rw [ht, bind_some_]
    obtain ⟨p, hp⟩ := horizonAim_def n.1 t v
    have he : p.2 = 0 := by
      rw [horizon_Aim_eq, site_ok ok, hv, bind_some_, bind_some_, or_errs, bind_some_] at hp
      rw [if_neg (by decide)] at hp
      rw [Option.bind_eq_some_iff] at hp
      obtain ⟨_, _, hp⟩ := hp
      rw [Option.bind_eq_some_iff] at hp
      obtain ⟨_, _, hp⟩ := hp
      rw [Option.bind_eq_some_iff] at hp
      obtain ⟨_, _, hp⟩ := hp
      rw [Option.bind_eq_some_iff] at hp
      obtain ⟨_, _, hp⟩ := hp
      rw [Option.bind_eq_some_iff] at hp
      obtain ⟨_, _, hp⟩ := hp
      rw [Option.bind_eq_some_iff] at hp
      obtain ⟨_, _, hp⟩ := hp
      rw [Option.bind_eq_some_iff] at hp
      obtain ⟨_, _, hp⟩ := hp
      rw [Option.bind_eq_some_iff] at hp
      obtain ⟨_, _, hp⟩ := hp
      rw [Option.bind_eq_some_iff] at hp
      obtain ⟨_, _, hp⟩ := hp
      rw [Option.bind_eq_some_iff] at hp
      obtain ⟨_, _, hp⟩ := hp
      rw [Option.bind_eq_some_iff] at hp
      obtain ⟨_, _, hp⟩ := hp
      rw [Option.bind_eq_some_iff] at hp
      obtain ⟨_, _, hp⟩ := hp
      split at hp <;> (cases hp; rfl)
    refine ⟨p.1, ?_⟩
    rw [hp, bind_some_, ← he]
  obtain ⟨a, ha⟩ := key
  exact ⟨a, ha, (aim_wf ha).1, (aim_wf ha).2⟩
theorem slots_def {n : Night} (hn : prop_CheckNight n = some 0) (ok : NightOk n) (k : Int) : Def (slew_Slots n k) := by
  have hl := ok.long
  rw [slew_Slots_eq, hn, bind_some_, if_pos (by decide), if_neg (show ¬ n.2.2.2.1 = 0 by omega)]
  exact Def.ite (fun _ => .mk _) (fun _ => .mk _)
theorem track_run (m : Mt) (n : Night) (v : Int × Int × Int) (to : Int) (hn : prop_CheckNight n = some 0) (ok : NightOk n) (hv : sphere_Check v = some 0) (ht : to ≤ n.2.2.2.2.1) (b : Int × Int) : ∀ (u : Nat) (k : Int) (at_ : Int × Int), 0 ≤ k → to - k ≤ u → k ≤ 64 → (m.1.1 ≤ at_.1 ∧ at_.1 ≤ m.1.2.1) → (m.2.1.1 ≤ at_.2 ∧ at_.2 ≤ m.2.1.2.1) → MtOk m →
    ∃ r, slew_Track.p10 to (k + 1) m n at_ v b = some r ∧ (r.2 = 0 → (m.1.1 ≤ r.1.1 ∧ r.1.1 ≤ m.1.2.1) ∧ (m.2.1.1 ≤ r.1.2 ∧ r.1.2 ≤ m.2.1.2.1)) := by
  have hs := ok.slots
  intro u
  induction u with
  | zero =>
    intro k at_ h0 h1 h2 h3 h4 hm
    rw [slew_Track.p10_eq, if_neg (by rw [dt]; omega)]
    exact ⟨_, rfl, fun _ => ⟨h3, h4⟩⟩
  | succ u ih =>
    intro k at_ h0 h1 h2 h3 h4 hm
    have A := fault_ok hm.az
    have B := fault_ok hm.alt
    rw [slew_Track.p10_eq]
    by_cases hk : k + 1 ≤ to
    · obtain ⟨p, p1, w1, w2⟩ := aim_def hn ok hv (k := k + 1) (by omega) (by omega)
      rw [if_pos (by rw [dt]; exact hk), p1, bind_some_, if_neg (show ¬ ((0 : Int) != 0) = true by decide)]
      obtain ⟨r, r1, r2, _⟩ := to_def m at_ p w1 w2
      rw [r1, bind_some_]
      by_cases hz : r.2.2 = 0
      · have ok2 := r2 hz
        have a1 := A.lo
        have a2 := A.hi
        have b1 := B.lo
        have b2 := B.hi
        have c1 := ok2.p1
        have c2 := ok2.p2
        rw [if_neg (by rw [ne_t]; exact fun q => q hz), wi (x := r.1.1 - at_.1) (by omega) (by omega), abs_eq _ (by omega) (by omega), bind_some_]
        by_cases d1 : ((r.1.1 - at_.1).natAbs : Int) > 1073741824
        · rw [if_neg (by rw [df]; exact fun q => q d1)]
          exact ⟨_, rfl, fun k => by cases k⟩
        · rw [if_pos (by rw [df]; exact d1), wi (x := r.1.2 - at_.2) (by omega) (by omega), abs_eq _ (by omega) (by omega), bind_some_]
          by_cases d2 : ((r.1.2 - at_.2).natAbs : Int) > 1073741824
          · rw [if_pos (by rw [dt]; exact d2)]
            exact ⟨_, rfl, fun k => by cases k⟩
          · rw [if_neg (by rw [dt]; exact d2), wi (x := k + 1 + 1) (by omega) (by omega)]
            exact ih (k + 1) r.1 (by omega) (by omega) (by omega) ok2.p1 ok2.p2 hm
      · rw [if_pos (by rw [ne_t]; exact hz)]
        exact ⟨_, rfl, fun k => absurd k hz⟩
    · rw [if_neg (by rw [dt]; exact hk)]
      exact ⟨_, rfl, fun _ => ⟨h3, h4⟩⟩
/-- Tracks are defined; where one ends lies within the limits. -/
theorem track_def (m : Mt) (n : Night) (at_ : Int × Int) (v : Int × Int × Int) (fr to : Int) (hm : slew_CheckMount m = some 0) (hn : prop_CheckNight n = some 0) (ok : NightOk n) (mk : MtOk m) (hv : sphere_Check v = some 0) : ∃ r, slew_Track m n at_ v fr to = some r ∧ (r.2 = 0 → (m.1.1 ≤ r.1.1 ∧ r.1.1 ≤ m.1.2.1) ∧ (m.2.1.1 ≤ r.1.2 ∧ r.1.2 ≤ m.2.1.2.1)) := by
  have hs := ok.slots
  have four : ∀ q : Int × Int, ∃ r, some ((0, 0), (4 : Int)) = some r ∧ (r.2 = 0 → (m.1.1 ≤ r.1.1 ∧ r.1.1 ≤ m.1.2.1) ∧ (m.2.1.1 ≤ r.1.2 ∧ r.1.2 ≤ m.2.1.2.1)) := fun _ => ⟨((0, 0), 4), rfl, fun k => by cases k⟩
  rw [slew_Track_eq, hm, bind_some_, if_neg (by decide), hn, bind_some_, if_neg (by decide)]
  obtain ⟨⟨a0, a1, a2, a3⟩, ⟨b0, b1, b2, b3⟩, p, q⟩ := m
  simp only [in_eq, bind_some_]
  by_cases h1 : a0 ≤ at_.1 ∧ at_.1 ≤ a1
  · rw [if_pos (by rw [not_f, dt]; exact h1)]
    by_cases h2 : b0 ≤ at_.2 ∧ at_.2 ≤ b1
    · rw [if_pos (by rw [not_f, dt]; exact h2)]
      by_cases h3 : fr < 0
      · rw [if_neg (by rw [df]; exact fun q => q h3)]
        exact four (0, 0)
      · rw [if_pos (by rw [df]; exact h3)]
        by_cases h4 : fr > to
        · rw [if_neg (by rw [df]; exact fun q => q h4)]
          exact four (0, 0)
        · rw [if_pos (by rw [df]; exact h4)]
          by_cases h5 : to > n.2.2.2.2.1
          · rw [if_pos (by rw [dt]; exact h5)]
            exact four (0, 0)
          · rw [if_neg (by rw [dt]; exact h5), wi (x := fr + 1) (by omega) (by omega)]
            exact track_run ((a0, a1, a2, a3), (b0, b1, b2, b3), p, q) n v to hn ok hv (by omega) (0, 0) 64 fr at_ (by omega) (by omega) (by omega) h1 h2 mk
    · rw [if_neg (by rw [not_f, dt]; exact h2)]
      exact four (0, 0)
  · rw [if_neg (by rw [not_f, dt]; exact h1)]
    exact four (0, 0)

end Go.Proofs.YtdcbapdakaaeoaaGreat.Pure
