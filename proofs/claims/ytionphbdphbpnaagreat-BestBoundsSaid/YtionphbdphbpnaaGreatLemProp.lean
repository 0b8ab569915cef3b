/- Programmes. -/
import Derived.Test.YtionphbdphbpnaaGreatEA0
import Derived.Test.YtionphbdphbpnaaGreatEA1
import Derived.Test.YtionphbdphbpnaaGreatEA2
import Derived.Test.YtionphbdphbpnaaGreatEA3
import Derived.Test.YtionphbdphbpnaaGreatEA4
import Derived.Test.YtionphbdphbpnaaGreatPl
import Derived.Test.YtionphbdphbpnaaGreatLemNum
import Derived.Test.YtionphbdphbpnaaGreatLemDiv
import Derived.Test.YtionphbdphbpnaaGreatLemNight
import Derived.Test.YtionphbdphbpnaaGreatLemBound
import Derived.Test.YtionphbdphbpnaaGreatLemHeight
import Derived.Test.YtionphbdphbpnaaGreatLemSame
import Derived.Test.YtionphbdphbpnaaGreatLemWin
namespace Go.Proofs.YtionphbdphbpnaaGreat.Pure
set_option linter.unusedVariables false
set_option linter.unusedSimpArgs false
open Go Go.RowKit Go.Proofs.YtionphbdphbpnaaGreat.Pv Go.Proofs.YtionphbdphbpnaaGreat.Pl Go.Proofs.YtionphbdphbpnaaGreat.EA

/-! Programmes: the program's check is the reference's. -/
abbrev Progr : Type := List (ByteArray × Int) × List Req
theorem keyI {a b : Int} : keyEq (.int .i64) a b = true ↔ a = b := by rw [keyEq]; simp
theorem toList_inj {a b : ByteArray} : (a.toList == b.toList) = true ↔ a = b := by
  constructor
  · intro h
    have h2 : (a == b) = true := by rw [beq_toListBytes]; exact h
    have h3 : (a.data == b.data) = true := h2
    exact ByteArray.ext (by simpa using h3)
  · rintro rfl
    simp
theorem keyS {a b : ByteArray} : keyEq .str a b = true ↔ a = b := by rw [keyEq]; exact toList_inj
theorem look_upd {k v : Ty} (hk : ∀ a b : k.den, keyEq k a b = true ↔ a = b) (x : k.den) (y : v.den) (z : k.den) : ∀ l : List (k.den × v.den), (z = x → lookM k v z (updM k v x y l) = some y) ∧ (z ≠ x → lookM k v z (updM k v x y l) = lookM k v z l)
  | [] => by
    constructor
    · intro h
      rw [updM, lookM, if_pos ((hk _ _).2 h)]
    · intro h
      rw [updM]
      show (if keyEq k z x = true then some y else none) = none
      rw [if_neg (fun q => h ((hk _ _).1 q))]
  | p :: r => by
    have ih := look_upd hk x y z r
    rw [updM]
    by_cases c : keyEq k x p.1 = true
    · have e := (hk _ _).1 c
      rw [if_pos c]
      constructor
      · intro h
        rw [lookM, if_pos ((hk _ _).2 (h.trans e))]
      · intro h
        rw [lookM, lookM, if_neg (fun q => h (((hk _ _).1 q).trans e.symm)), if_neg (fun q => h (((hk _ _).1 q).trans e.symm))]
    · rw [if_neg c]
      constructor
      · intro h
        rw [lookM, if_neg (fun q => c (by rw [← h]; exact q))]
        exact ih.1 h
      · intro h
        rw [lookM, lookM]
        by_cases d : keyEq k z p.1 = true
        · rw [if_pos d, if_pos d]
        · rw [if_neg d, if_neg d]
          exact ih.2 h
/-! Names. -/
theorem name_p4 (s : ByteArray) (hs : s.size ≤ 12) : ∀ (u k : Nat), s.size - k = u → k ≤ s.size → Same (fun _ => True) (prop_Name.p4 s k) (spyref2_NameOK.p4 s k) := by
  intro u
  induction u with
  | zero =>
    intro k h hk
    rw [prop_Name.p4_eq, spyref2_NameOK.p4_eq, if_neg (by rw [dt]; omega), if_neg (by rw [dt]; omega)]
    exact .mk _ trivial
  | succ u ih =>
    intro k h hk
    have a : decide ((k : Int) < (s.size : Int)) = true := by rw [dt]; omega
    have ih' := ih (k + 1) (by omega) (by omega)
    have p8 : ∀ sm : Bool, Same (fun _ => True) (prop_Name.p8 s k ((bytesOf s).getD (k : Int).toNat 0) sm) (spyref2_NameOK.p7 s k sm) := by
      intro sm
      rw [prop_Name.p8_eq, spyref2_NameOK.p7_eq]
      simp only [spyref2_NameOK.p8_eq, if_pos (show (0 : Int) ≤ k by omega), if_pos (show (k : Int) < s.size by omega), wi_nat (show k < 9223372036854775807 by omega)]
      generalize (bytesOf s).getD (k : Int).toNat 0 = c
      cases sm with
      | true =>
        simp only [Bool.not_true, Bool.false_eq_true, if_false]
        exact .right (fun _ => .right (fun _ => ih') (fun _ => ih')) (fun _ => ih')
      | false =>
        simp only [Bool.not_false, if_true]
        by_cases k0 : k = 0
        · subst k0
          refine .left (fun q => absurd q (by decide)) (fun _ => ?_)
          repeat' (refine .right (fun _ => ?_) (fun _ => ?_))
          all_goals first | exact .mk _ trivial | (rename_i q; exact absurd q (by decide))
        · have g : decide ((k : Int) > 0) = true := by rw [dt]; omega
          refine .left (fun _ => ?_) (fun q => absurd (show ((k : Int) == 0) = false by rw [eq_f]; omega) q)
          simp only [g, Bool.not_true, Bool.false_eq_true, if_false]
          by_cases c1 : c < 48
          · rw [if_neg (show ¬ decide (c < 48) = false by rw [df]; omega), if_neg (show ¬ decide (c ≥ 48) = true by rw [dt]; omega)]
            by_cases c3 : c = 45
            · rw [if_neg (by rw [ne_t]; exact fun q => q c3), if_pos (by rw [eq_t]; exact c3)]
              exact ih'
            · rw [if_pos (by rw [ne_t]; exact c3), if_neg (by rw [eq_t]; exact c3)]
              exact .mk _ trivial
          · rw [if_pos (show decide (c < 48) = false by rw [df]; omega), if_pos (show decide (c ≥ 48) = true by rw [dt]; omega)]
            by_cases c2 : c > 57
            · rw [if_pos (show decide (c > 57) = true by rw [dt]; omega), if_pos (show decide (c ≤ 57) = false by rw [df]; omega)]
              by_cases c3 : c = 45
              · rw [if_neg (by rw [ne_t]; exact fun q => q c3), if_pos (by rw [eq_t]; exact c3)]
                exact ih'
              · rw [if_pos (by rw [ne_t]; exact c3), if_neg (by rw [eq_t]; exact c3)]
                exact .mk _ trivial
            · rw [if_neg (show ¬ decide (c > 57) = true by rw [dt]; omega), if_neg (show ¬ decide (c ≤ 57) = false by rw [df]; omega)]
              exact ih'
    rw [prop_Name.p4_eq, spyref2_NameOK.p4_eq]
    simp only [if_pos a, if_pos (show (0 : Int) ≤ k by omega), if_pos (show (k : Int) < s.size by omega)]
    exact .ite (by simp) (fun _ => p8 _) (fun _ => p8 _)
theorem name_same (s : ByteArray) : Same (fun _ => True) (prop_Name s) (spyref2_NameOK s) := by
  rw [prop_Name_eq, spyref2_NameOK_eq]
  refine .ite (by rw [eq_f, df]; omega) (fun _ => .ite Iff.rfl (fun _ => .mk _ trivial) (fun h => ?_)) (fun _ => .mk _ trivial)
  rw [dt] at h
  exact name_p4 s (by omega) _ 0 rfl (by omega)
theorem proposal_same (p : ByteArray × Int) : Same (fun _ => True) (prop_CheckProposal p) (spyref2_ProposalFault p) := by
  rw [prop_CheckProposal_eq, spyref2_ProposalFault_eq]
  refine (name_same p.1).bind fun r _ => .ite Iff.rfl (fun _ => .mk _ trivial) (fun _ => ?_)
  rw [within_in, in_val, bind_some_]
  exact .ite Iff.rfl (fun _ => .mk _ trivial) (fun _ => .mk _ trivial)
/-! Requests of a programme. -/
def OkAt (p : Progr) (j : Nat) (h : j < p.2.length) : Prop := spyref2_RequestFault p.2[j] = some 0 ∧ 0 ≤ p.2[j].2.1 ∧ p.2[j].2.1 < p.1.length ∧ p.2[j].1 ∉ (p.2.take j).map (·.1)
theorem prog_p23 (p : Progr) (t53 : List Req) (t54 t55 : Int) (x : Req) (l : List Req) (hl : l.length ≤ 16) : ∀ (u k : Nat), l.length - k = u → k ≤ l.length → spyref2_ProgrammeFault.p23 t53 t54 t55 l l.length k p x = if x.1 ∈ (l.drop k).map (·.1) then some 7 else ((spyref2_In x.2.1 0 (IntKind.i64.wrap ((p.1.length : Int) - 1))).bind fun r => if (!r) = true then (some 8) else (spyref2_ProgrammeFault.p17 t53 t54 (IntKind.i64.wrap (t55 + 1)) p)) := by
  intro u
  induction u with
  | zero =>
    intro k h hk
    rw [spyref2_ProgrammeFault.p23_eq, if_neg (by rw [dt]; omega), List.drop_eq_nil_of_le (by omega), if_neg (by simp)]
  | succ u ih =>
    intro k h hk
    have hlt : k < l.length := by omega
    rw [spyref2_ProgrammeFault.p23_eq, if_pos (by rw [dt]; omega), if_pos (by omega), if_pos (by omega), toNat_nat, getD_nat _ _ hlt, wi_nat (by omega), List.drop_eq_getElem_cons hlt, List.map_cons]
    by_cases c : x.1 = l[k].1
    · rw [if_pos (by rw [eq_t]; exact c), if_pos (List.mem_cons.2 (.inl c))]
    · rw [if_neg (by rw [eq_t]; exact c), ih (k + 1) (by omega) (by omega)]
      by_cases d : x.1 ∈ (l.drop (k + 1)).map (·.1)
      · rw [if_pos d, if_pos (List.mem_cons.2 (.inr d))]
      · rw [if_neg d, if_neg (fun q => (List.mem_cons.1 q).elim c d)]
open Classical in
theorem prog_p10 (p : Progr) (t24 : List (ByteArray × Int)) (t25 t26 : Int) (x : ByteArray × Int) (l : List (ByteArray × Int)) (hl : l.length ≤ 16) : ∀ (u k : Nat), l.length - k = u → k ≤ l.length → spyref2_ProgrammeFault.p10 t24 t25 t26 l l.length k p x = if x.1 ∈ (l.drop k).map (·.1) then some 7 else spyref2_ProgrammeFault.p4 t24 t25 (IntKind.i64.wrap (t26 + 1)) p := by
  intro u
  induction u with
  | zero =>
    intro k h hk
    rw [spyref2_ProgrammeFault.p10_eq, if_neg (by rw [dt]; omega), List.drop_eq_nil_of_le (by omega), if_neg (by simp)]
  | succ u ih =>
    intro k h hk
    have hlt : k < l.length := by omega
    rw [spyref2_ProgrammeFault.p10_eq, if_pos (by rw [dt]; omega), if_pos (by omega), if_pos (by omega), toNat_nat, getD_nat _ _ hlt, wi_nat (by omega), List.drop_eq_getElem_cons hlt, List.map_cons]
    by_cases c : x.1 = l[k].1
    · rw [if_pos (toList_inj.2 c), if_pos (List.mem_cons.2 (.inl c))]
    · rw [if_neg (fun q => c (toList_inj.1 q)), ih (k + 1) (by omega) (by omega)]
      by_cases d : x.1 ∈ (l.drop (k + 1)).map (·.1)
      · rw [if_pos d, if_pos (List.mem_cons.2 (.inr d))]
      · rw [if_neg d, if_neg (fun q => (List.mem_cons.1 q).elim c d)]
/-- What a table of marks says. -/
theorem mark_upd {k : Ty} (hk : ∀ a b : k.den, keyEq k a b = true ↔ a = b) {b : List (k.den × Bool)} {names : List k.den} (hb : ∀ x, (lookM k .bool x b).getD false = true ↔ x ∈ names) (y : k.den) : ∀ x, (lookM k .bool x (updM k .bool y true b)).getD false = true ↔ x ∈ names ++ [y] := by
  intro x
  obtain ⟨h1, h2⟩ := look_upd (v := .bool) hk y true x b
  by_cases e : x = y
  · rw [h1 e]
    simp [e]
  · rw [h2 e]
    have := hb x
    simp only [List.mem_append, List.mem_singleton, e, or_false]
    exact this
theorem take_map {α β : Type} (f : α → β) (l : List α) {k : Nat} (h : k < l.length) : (l.take (k + 1)).map f = (l.take k).map f ++ [f l[k]] := by
  rw [List.take_succ_eq_append_getElem h, List.map_append]
  rfl
theorem prog_p16 (p : Progr) (h1 : p.1.length ≤ 6) (hl : p.2.length ≤ 16) : ∀ (u k : Nat) (b : List (Int × Bool)), p.2.length - k = u → k ≤ p.2.length → (∀ x, (lookM (.int .i64) .bool x b).getD false = true ↔ x ∈ (p.2.take k).map (·.1)) → Same (fun r => r = 0 → ∀ j, k ≤ j → (h : j < p.2.length) → OkAt p j h) (prop_Check.p16 p.2 p.2.length k p b) (spyref2_ProgrammeFault.p17 p.2 p.2.length k p) := by
  intro u
  induction u with
  | zero =>
    intro k b hu hk hb
    rw [prop_Check.p16_eq, spyref2_ProgrammeFault.p17_eq, if_neg (by rw [dt]; omega), if_neg (by rw [dt]; omega)]
    exact .mk _ (fun _ j h0 h1 => absurd h1 (by omega))
  | succ u ih =>
    intro k b hu hk hb
    have hlt : k < p.2.length := by omega
    have a : decide ((k : Int) < (p.2.length : Int)) = true := by rw [dt]; omega
    rw [prop_Check.p16_eq, spyref2_ProgrammeFault.p17_eq]
    simp only [if_pos a, if_pos (show (0 : Int) ≤ k by omega), if_pos (show (k : Int) < p.2.length by omega), if_pos (show (k : Int) ≤ p.2.length by omega), toNat_nat, getD_nat _ _ hlt, wi_nat (show k < 9223372036854775807 by omega)]
    obtain ⟨e, e1, e2, _⟩ := request_same p.2[k]
    rw [e1, e2, bind_some_, bind_some_]
    refine .ite Iff.rfl (fun q => .mk _ (fun z => by rw [z] at q; exact absurd q (by decide))) (fun q => ?_)
    have he : e = 0 := Classical.byContradiction fun z => q (by rw [ne_t]; exact z)
    subst he
    have pp := prog_p23 p p.2 p.2.length k p.2[k] (p.2.take k) (by simp; omega) _ 0 rfl (by omega)
    rw [show ((0 : Nat) : Int) = 0 from rfl, List.drop_zero] at pp
    rw [pp, within_in, in_val, bind_some_, wi_nat (by omega)]
    refine .ite (hb _) (fun _ => .mk _ (fun z => by cases z)) (fun hn => ?_)
    refine .ite Iff.rfl (fun _ => .mk _ (fun z => by cases z)) (fun hi => ?_)
    rw [not_t, df, wi (x := (p.1.length : Int) - 1) (by omega) (by omega)] at hi
    have hi' := Classical.byContradiction hi
    have := ih (k + 1) (updM (.int .i64) .bool p.2[k].1 true b) (by omega) (by omega) (by rw [take_map _ _ hlt]; exact mark_upd (fun _ _ => keyI) hb _)
    refine this.imp fun r hr hz j hj hjl => ?_
    by_cases ej : j = k
    · subst ej
      exact ⟨e2, hi'.1, by omega, fun q => hn ((hb _).2 q)⟩
    · exact hr hz j (by omega) hjl
open Classical in
theorem prog_p5 (p : Progr) (h1 : p.1.length ≤ 6) (hl : p.2.length ≤ 16) : ∀ (u k : Nat) (b : List (ByteArray × Bool)), p.1.length - k = u → k ≤ p.1.length → (∀ x, (lookM .str .bool x b).getD false = true ↔ x ∈ (p.1.take k).map (·.1)) → Same (fun r => r = 0 → ∀ j, (h : j < p.2.length) → OkAt p j h) (prop_Check.p5 p.1 p.1.length k p b) (spyref2_ProgrammeFault.p4 p.1 p.1.length k p) := by
  intro u
  induction u with
  | zero =>
    intro k b hu hk hb
    rw [prop_Check.p5_eq, spyref2_ProgrammeFault.p4_eq, if_neg (by rw [dt]; omega), if_neg (by rw [dt]; omega)]
    have := prog_p16 p h1 hl _ 0 [] rfl (by omega) (fun x => by simp [lookM])
    exact this.imp fun r hr hz j hj => hr hz j (by omega) hj
  | succ u ih =>
    intro k b hu hk hb
    have hlt : k < p.1.length := by omega
    have a : decide ((k : Int) < (p.1.length : Int)) = true := by rw [dt]; omega
    rw [prop_Check.p5_eq, spyref2_ProgrammeFault.p4_eq]
    simp only [if_pos a, if_pos (show (0 : Int) ≤ k by omega), if_pos (show (k : Int) < p.1.length by omega), if_pos (show (k : Int) ≤ p.1.length by omega), toNat_nat, getD_nat _ _ hlt, wi_nat (show k < 9223372036854775807 by omega)]
    obtain ⟨e, e1, e2, _⟩ := proposal_same p.1[k]
    rw [e1, e2, bind_some_, bind_some_]
    refine .ite Iff.rfl (fun q => .mk _ (fun z => by rw [z] at q; exact absurd q (by decide))) (fun q => ?_)
    have pp := prog_p10 p p.1 p.1.length k p.1[k] (p.1.take k) (by simp; omega) _ 0 rfl (by omega)
    rw [show ((0 : Nat) : Int) = 0 from rfl, List.drop_zero] at pp
    rw [pp, wi_nat (by omega)]
    refine .ite (hb _) (fun _ => .mk _ (fun z => by cases z)) (fun hn => ?_)
    exact ih (k + 1) _ (by omega) (by omega) (by rw [take_map _ _ hlt]; exact mark_upd (fun _ _ => keyS) hb _)
structure ProgOk (p : Progr) : Prop where
  names : p.1.length ≤ 6
  reqs : p.2.length ≤ 16
  at_ : ∀ j, (h : j < p.2.length) → OkAt p j h
theorem prog_same (p : Progr) : Same (fun r => r = 0 → ProgOk p) (prop_Check p) (spyref2_ProgrammeFault p) := by
  rw [prop_Check_eq, spyref2_ProgrammeFault_eq]
  refine .ite Iff.rfl (fun h1 => .ite Iff.rfl (fun _ => .mk _ (fun z => by cases z)) (fun h2 => ?_)) (fun _ => .mk _ (fun z => by cases z))
  rw [df] at h1
  rw [dt] at h2
  have := prog_p5 p (by omega) (by omega) _ 0 [] rfl (by omega) (fun x => by simp [lookM])
  exact this.imp fun r hr hz => ⟨by omega, by omega, hr hz⟩

end Go.Proofs.YtionphbdphbpnaaGreat.Pure
