/- PlanStates: the pure statement, proved. -/
import Derived.Test.YtionphbdphbpnaaEA0
import Derived.Test.YtionphbdphbpnaaEA1
import Derived.Test.YtionphbdphbpnaaEA2
import Derived.Test.YtionphbdphbpnaaEA3
import Derived.Test.YtionphbdphbpnaaPl
import Derived.Test.YtionphbdphbpnaaLemNum
import Derived.Test.YtionphbdphbpnaaLemDiv
import Derived.Test.YtionphbdphbpnaaLemNight
import Derived.Test.YtionphbdphbpnaaLemSame
import Derived.Test.YtionphbdphbpnaaLemProp
namespace Go.Proofs.Ytionphbdphbpnaa.Pure
set_option linter.unusedVariables false
set_option linter.unusedSimpArgs false
open Go Go.RowKit Go.Proofs.Ytionphbdphbpnaa.Pv Go.Proofs.Ytionphbdphbpnaa.Pl Go.Proofs.Ytionphbdphbpnaa.EA

/-- A list that is filled place by place. -/
theorem set_fill {α : Type} {acc l : List α} {k : Nat} (hk : k < l.length) (hl : acc.length = l.length) (h : ∀ j, j < k → acc[j]? = l[j]?) : ∀ j, j < k + 1 → (acc.set k l[k])[j]? = l[j]? := by
  intro j hj
  rw [List.getElem?_set]
  by_cases e : k = j
  · subst e
    rw [if_pos rfl, if_pos (by omega), List.getElem?_eq_getElem hk]
  · rw [if_neg e]
    exact h j (by omega)
theorem fill_end {α : Type} {acc l : List α} (hl : acc.length = l.length) (h : ∀ j, j < l.length → acc[j]? = l[j]?) : acc = l := by
  apply List.ext_getElem?
  intro j
  by_cases e : j < l.length
  · exact h j e
  · rw [List.getElem?_eq_none (by omega), List.getElem?_eq_none (by omega)]
abbrev Axis_ : Type := Int × Int × Int × Int
abbrev Mount_ : Type := Axis_ × Axis_ × Int × Int
abbrev State_ : Type := Int × (Int × Int) × List (List Int)
theorem axis_same (a : Axis_) : Same (fun _ => True) (slew_CheckAxis a) (spyref2_AxisFault a) := by
  rw [slew_CheckAxis_eq, spyref2_AxisFault_eq, Int.mul_comm a.2.2.2 64]
  simp only [dt, df]
  repeat' (refine Same.ite Iff.rfl (fun _ => ?_) (fun _ => ?_))
  all_goals try exact .mk _ trivial
  by_cases c1 : a.2.2.2 > a.2.2.1
  · rw [if_neg (show ¬ ¬ a.2.2.2 > a.2.2.1 by omega)]
    refine .right (fun _ => ?_) (fun _ => .mk _ trivial)
    rw [if_neg (show ¬ ¬ a.2.2.2 > a.2.2.1 by omega)]
    exact .mk _ trivial
  · rw [if_pos (show ¬ a.2.2.2 > a.2.2.1 by omega), if_pos (show ¬ a.2.2.2 > a.2.2.1 by omega)]
    exact .ite Iff.rfl (fun _ => .ite Iff.rfl (fun _ => .mk _ trivial) (fun _ => .mk _ trivial)) (fun _ => .mk _ trivial)
theorem in_within (a : Axis_) (x : Int) : slew_In a x = some (decide (a.1 ≤ x ∧ x ≤ a.2.1)) ∧ spyref2_Within a x = some (decide (a.1 ≤ x ∧ x ≤ a.2.1)) := by
  rw [slew_In_eq, spyref2_Within_eq]
  simp only [dt, ge_iff_le]
  by_cases h : a.1 ≤ x
  · rw [if_pos h]
    simp [h]
  · rw [if_neg h]
    simp [h]
theorem mount_same (m : Mount_) : Same (fun _ => True) (slew_CheckMount m) (spyref2_MountFault m) := by
  rw [slew_CheckMount_eq, spyref2_MountFault_eq]
  refine (axis_same m.1).bind fun r _ => .ite Iff.rfl (fun _ => .mk _ trivial) (fun _ => (axis_same m.2.1).bind fun r _ => .ite Iff.rfl (fun _ => .mk _ trivial) (fun _ => ?_))
  rw [(in_within ..).1, (in_within ..).1, (in_within ..).2, (in_within ..).2]
  simp only [bind_some_]
  exact .ite Iff.rfl (fun _ => .ite Iff.rfl (fun _ => .mk _ trivial) (fun _ => .mk _ trivial)) (fun _ => .mk _ trivial)
theorem all_same (n : Night) (m : Mount_) (p : Progr) : Same (fun r => r = 0 → NightOk n ∧ ProgOk p) (plan_CheckAll n m p) (spyref2_AllFault n m p) := by
  obtain ⟨h1, e, h2⟩ := night_eq n
  rw [plan_CheckAll_eq, spyref2_AllFault_eq, h1, h2, bind_some_, bind_some_]
  refine .ite Iff.rfl (fun q => .mk _ (fun z => by rw [z] at q; exact absurd q (by decide))) (fun q => ?_)
  have he : e = 0 := Classical.byContradiction fun z => q (by rw [ne_t]; exact z)
  refine (mount_same m).bind fun r _ => .ite Iff.rfl (fun q => .mk _ (fun z => by rw [z] at q; exact absurd q (by decide))) (fun _ => ?_)
  rw [bind_id, bind_id]
  exact (prog_same p).imp fun r hr hz => ⟨night_ok (by rw [h2, he]), hr hz⟩
/-! States. -/
theorem same_ints (l : List Int) (hl : l.length ≤ 9223372036854775806) : spyref2_SameInts l l = some true := by
  rw [spyref2_SameInts_eq, if_neg (by simp)]
  have := equal_run 0 (fun x y => x == y) (fun x y => by simp) l l rfl (by omega) (fun i => spyref2_SameInts.p4 l l (l.length : Int) i) (fun i => spyref2_SameInts.p4_eq ..)
  simpa using this
theorem equal_ints (l : List Int) (hl : l.length ≤ 9223372036854775806) : slices_Equal_int_int l l = some true := by
  rw [slices_Equal_int_int_eq, if_neg (by simp)]
  have := equal_run 0 (fun x y => x == y) (fun x y => by simp) l l rfl (by omega) (fun i => slices_Equal_int_int.p4 l l (l.length : Int) i) (fun i => slices_Equal_int_int.p4_eq ..)
  simpa using this
theorem same_p4 (s : State_) (h0 : s.2.2.length ≤ 9223372036854775806) (hs : ∀ x, x ∈ s.2.2 → x.length ≤ 9223372036854775806) : ∀ (u k : Nat), s.2.2.length - k = u → k ≤ s.2.2.length → spyref2_SameState.p4 s.2.2.length k s s = some true := by
  intro u
  induction u with
  | zero =>
    intro k hu hk
    rw [spyref2_SameState.p4_eq, if_neg (by rw [dt]; omega)]
  | succ u ih =>
    intro k hu hk
    have hlt : k < s.2.2.length := by omega
    rw [spyref2_SameState.p4_eq]
    simp only [if_pos (show decide ((k : Int) < (s.2.2.length : Int)) = true by rw [dt]; omega), if_pos (show (0 : Int) ≤ k by omega), if_pos (show (k : Int) < s.2.2.length by omega), toNat_nat, getD_nat _ _ hlt, wi_nat (show k < 9223372036854775807 by omega)]
    rw [same_ints _ (hs _ (List.getElem_mem ..)), bind_some_, if_neg (by decide)]
    exact ih (k + 1) (by omega) (by omega)
theorem same_state (s : State_) (h0 : s.2.2.length ≤ 9223372036854775806) (hs : ∀ x, x ∈ s.2.2 → x.length ≤ 9223372036854775806) : spyref2_SameState s s = some true := by
  rw [spyref2_SameState_eq, if_pos (by simp), if_pos (by simp), if_neg (by simp)]
  exact same_p4 s h0 hs _ 0 rfl (by omega)
theorem clone_one (l : List Int) (hl : l.length * 8 ≤ 140737488355328) : nilOr (.list true 3 (.int .i64)) l.isEmpty slices_Clone_int_int slices_Clone_int_int_1 (slices_Clone_int_int_2 l) = some l := by
  unfold nilOr
  rw [slices_Clone_int_int_eq, slices_Clone_int_int_1_eq, slices_Clone_int_int_2_eq]
  cases l with
  | nil => rfl
  | cons x l =>
    rw [if_neg (by simp), if_neg (by simp), if_pos (by rw [Nat.zero_add]; exact hl)]
theorem clone_p3 (s b2 : State_) (h0 : s.2.2.length ≤ 9223372036854775806) (hs : ∀ x, x ∈ s.2.2 → x.length * 8 ≤ 140737488355328) : ∀ (u k : Nat) (acc : List (List Int)), s.2.2.length - k = u → k ≤ s.2.2.length → acc.length = s.2.2.length → (∀ j, j < k → acc[j]? = s.2.2[j]?) → plan_Clone.p3 s.2.2 s.2.2.length k s b2 acc = some s := by
  intro u
  induction u with
  | zero =>
    intro k acc hu hk ha hj
    rw [plan_Clone.p3_eq, if_neg (by rw [dt]; omega), fill_end ha (fun j h => hj j (by omega))]
  | succ u ih =>
    intro k acc hu hk ha hj
    have hlt : k < s.2.2.length := by omega
    rw [plan_Clone.p3_eq, if_pos (by rw [dt]; omega), if_pos (by omega), if_pos (by omega), toNat_nat, getD_nat _ _ hlt, clone_one _ (hs _ (List.getElem_mem ..)), bind_some_, if_pos (by omega), if_pos (by omega), wi_nat (by omega)]
    exact ih (k + 1) _ (by omega) (by omega) (by simp [ha]) (set_fill hlt ha hj)
theorem clone_same (s : State_) (h0 : s.2.2.length * 24 ≤ 140737488355328) (hs : ∀ x, x ∈ s.2.2 → x.length * 8 ≤ 140737488355328) : plan_Clone s = some s := by
  rw [plan_Clone_eq, if_pos rfl, if_pos (by omega), if_pos (by omega)]
  exact clone_p3 s _ (by omega) hs _ 0 (List.replicate s.2.2.length []) rfl (by omega) (by simp) (fun j h => absurd h (by omega))
/-! A state that fits a table. -/
theorem state_p11 (s : State_) (p : Progr) (t : Night × Mount_ × Progr × List (List Int)) (ht : t.2.2.1 = p) (i : Nat) (hi : i < p.2.length) (l : List Int) (hl : l.length ≤ 100) (next : (∃ r, plan_CheckState.p6 s.2.2 s.2.2.length ((i + 1 : Nat) : Int) p s = some r ∧ spyref2_Table_StateFault.p6 s.2.2 s.2.2.length ((i + 1 : Nat) : Int) t s = some r)) (hi2 : i < 9223372036854775806) : ∀ (u k : Nat) (last : Int), l.length - k = u → k ≤ l.length → (k = 0 → last = -1) → (∀ h : 0 < k, 0 ≤ last ∧ last = l.getD (k - 1) 0) → Same (fun _ => True) (plan_CheckState.p11 i l s.2.2 s.2.2.length i l l.length k p s) (spyref2_Table_StateFault.p12 i last s.2.2 s.2.2.length i l l.length k t s) := by
  intro u
  induction u with
  | zero =>
    intro k last hu hk h0 h1
    rw [plan_CheckState.p11_eq, spyref2_Table_StateFault.p12_eq, if_neg (by rw [dt]; omega), if_neg (by rw [dt]; omega), wi_nat (by omega)]
    obtain ⟨r, n1, n2⟩ := next
    exact ⟨r, n1, n2, trivial⟩
  | succ u ih =>
    intro k last hu hk h0 h1
    have hlt : k < l.length := by omega
    rw [plan_CheckState.p11_eq, spyref2_Table_StateFault.p12_eq]
    simp only [ht, if_pos (show decide ((k : Int) < (l.length : Int)) = true by rw [dt]; omega), if_pos (show (0 : Int) ≤ k by omega), if_pos (show (k : Int) < l.length by omega), if_pos (show (0 : Int) ≤ i by omega), if_pos (show (i : Int) < p.2.length by omega), toNat_nat, wi_nat (show k < 9223372036854775807 by omega)]
    generalize hW : IntKind.i64.wrap (s.1 - (p.2.getD i (0, 0, (0, 0, 0), 0, 0, 0, 0, 0, 0, 0, 0)).2.2.2.1) = W
    have nx : 0 ≤ l.getD k 0 → Same (fun _ => True) (plan_CheckState.p11 i l s.2.2 s.2.2.length i l l.length ((k + 1 : Nat) : Int) p s) (spyref2_Table_StateFault.p12 i (l.getD k 0) s.2.2 s.2.2.length i l l.length ((k + 1 : Nat) : Int) t s) := fun q => ih (k + 1) _ (by omega) (by omega) (fun z => by omega) (fun _ => ⟨q, by simp⟩)
    simp only [dt, df]
    by_cases k0 : k = 0
    · subst k0
      rw [h0 rfl]
      refine .ite (by omega) (fun a1 => ?_) (fun _ => .mk _ trivial)
      by_cases a2 : l.getD 0 0 > W
      · rw [if_neg (by omega), if_pos a2]
        exact .mk _ trivial
      · rw [if_pos (by omega), if_neg a2, if_neg (by omega)]
        exact nx (by omega)
    · obtain ⟨g1, g2⟩ := h1 (by omega)
      rw [wi (x := (k : Int) - 1) (by omega) (by omega), if_pos (show (k : Int) > 0 by omega), if_pos (show 0 ≤ (k : Int) - 1 by omega), if_pos (show (k : Int) - 1 < l.length by omega), show ((k : Int) - 1).toNat = k - 1 by omega, ← g2]
      by_cases a1 : l.getD k 0 < 0
      · rw [if_neg (by omega), if_neg (by omega)]
        exact .mk _ trivial
      · rw [if_pos a1]
        by_cases a2 : l.getD k 0 > W
        · rw [if_neg (by omega)]
          exact .right (fun _ => by rw [if_pos a2]; exact .mk _ trivial) (fun _ => .mk _ trivial)
        · rw [if_pos a2]
          by_cases a3 : l.getD k 0 ≤ last
          · rw [if_pos a3, if_neg (by omega)]
            exact .mk _ trivial
          · rw [if_neg a3, if_pos a3, if_neg a2]
            exact nx (by omega)
theorem request_vis {p : Progr} (ok : ProgOk p) (j : Nat) (h : j < p.2.length) : 1 ≤ p.2[j].2.2.2.1 ∧ p.2[j].2.2.2.1 ≤ 8 ∧ 1 ≤ p.2[j].2.2.2.2.1 ∧ p.2[j].2.2.2.2.1 ≤ 4 := request_len (ok.at_ j h).1
theorem state_p6 (s : State_) (p : Progr) (ok : ProgOk p) (t : Night × Mount_ × Progr × List (List Int)) (ht : t.2.2.1 = p) (hs : s.2.2.length = p.2.length) : ∀ (u k : Nat), s.2.2.length - k = u → k ≤ s.2.2.length → Same (fun _ => True) (plan_CheckState.p6 s.2.2 s.2.2.length k p s) (spyref2_Table_StateFault.p6 s.2.2 s.2.2.length k t s) := by
  have hr := ok.reqs
  intro u
  induction u with
  | zero =>
    intro k hu hk
    rw [plan_CheckState.p6_eq, spyref2_Table_StateFault.p6_eq, if_neg (by rw [dt]; omega), if_neg (by rw [dt]; omega)]
    exact .mk _ trivial
  | succ u ih =>
    intro k hu hk
    have hlt : k < s.2.2.length := by omega
    have hlt2 : k < p.2.length := by omega
    obtain ⟨r, n1, n2, _⟩ := ih (k + 1) (by omega) (by omega)
    rw [plan_CheckState.p6_eq, spyref2_Table_StateFault.p6_eq]
    simp only [ht, if_pos (show decide ((k : Int) < (s.2.2.length : Int)) = true by rw [dt]; omega), if_pos (show (0 : Int) ≤ k by omega), if_pos (show (k : Int) < s.2.2.length by omega), if_pos (show (k : Int) < p.2.length by omega), toNat_nat]
    refine .ite Iff.rfl (fun _ => .mk _ trivial) (fun q => ?_)
    rw [dt, getD_nat _ _ hlt2] at q
    have v := request_vis ok k hlt2
    exact state_p11 s p t ht k hlt2 _ (by omega) ⟨r, n1, n2⟩ (by omega) _ 0 (-1) rfl (by omega) (fun _ => rfl) (fun h => absurd h (by omega))
theorem state_same (n : Night) (m : Mount_) (p : Progr) (s : State_) (ok : ProgOk p) : Same (fun _ => True) (plan_CheckState n m p s) (spyref2_Table_StateFault (n, m, p, []) s) := by
  rw [plan_CheckState_eq, spyref2_Table_StateFault_eq, in_val, (in_within ..).1, (in_within ..).1, (in_within ..).2, (in_within ..).2]
  simp only [bind_some_]
  have rest : Same (fun _ => True) (if (!decide (m.1.1 ≤ s.2.1.1 ∧ s.2.1.1 ≤ m.1.2.1)) = false then (if (!decide (m.2.1.1 ≤ s.2.1.2 ∧ s.2.1.2 ≤ m.2.1.2.1)) = true then (some 4) else (if ((s.2.2.length : Int) != (p.2.length : Int)) = true then (some 3) else (plan_CheckState.p6 s.2.2 (s.2.2.length : Int) 0 p s))) else (some 4)) (if (!decide (m.1.1 ≤ s.2.1.1 ∧ s.2.1.1 ≤ m.1.2.1)) = false then (if (!decide (m.2.1.1 ≤ s.2.1.2 ∧ s.2.1.2 ≤ m.2.1.2.1)) = true then (some 4) else (if ((s.2.2.length : Int) != (p.2.length : Int)) = true then (some 3) else (spyref2_Table_StateFault.p6 s.2.2 (s.2.2.length : Int) 0 (n, m, p, []) s))) else (some 4)) := by
    refine .ite Iff.rfl (fun _ => .ite Iff.rfl (fun _ => .mk _ trivial) (fun _ => .ite Iff.rfl (fun _ => .mk _ trivial) (fun q => ?_))) (fun _ => .mk _ trivial)
    rw [ne_t] at q
    exact state_p6 s p ok _ rfl (by omega) _ 0 rfl (by omega)
  by_cases c1 : s.1 < 0
  · rw [if_neg (show ¬ decide (s.1 < 0) = false by rw [df]; exact fun q => q c1), if_neg (show ¬ (!decide (0 ≤ s.1 ∧ s.1 ≤ n.2.2.2.2.1)) = false by rw [not_f, dt]; omega)]
    exact .mk _ trivial
  · rw [if_pos (show decide (s.1 < 0) = false by rw [df]; exact c1)]
    by_cases c2 : s.1 > n.2.2.2.2.1
    · rw [if_neg (show ¬ decide (s.1 > n.2.2.2.2.1) = false by rw [df]; exact fun q => q c2), if_neg (show ¬ (!decide (0 ≤ s.1 ∧ s.1 ≤ n.2.2.2.2.1)) = false by rw [not_f, dt]; omega)]
      exact .mk _ trivial
    · rw [if_pos (show decide (s.1 > n.2.2.2.2.1) = false by rw [df]; exact c2), if_pos (show (!decide (0 ≤ s.1 ∧ s.1 ≤ n.2.2.2.2.1)) = false by rw [not_f, dt]; omega)]
      exact rest
/-! What the proposals have used. -/
theorem used_p5 (p : Progr) (ok : ProgOk p) (s : State_) (hs : s.2.2.length = p.2.length) : ∀ (u k : Nat) (b : List Int), p.2.length - k = u → k ≤ p.2.length → b.length = p.1.length → ∃ c : List Int, c.length = p.1.length ∧ plan_Used.p5 p.2 p.2.length k s b = some c ∧ ∀ j : Nat, (h : j < c.length) → spyref2_Table_UsedBy.p3 j (b.getD j 0) p.2 p.2.length k s = some c[j] := by
  have hr := ok.reqs
  intro u
  induction u with
  | zero =>
    intro k b hu hk hb
    refine ⟨b, hb, by rw [plan_Used.p5_eq, if_neg (by rw [dt]; omega)], fun j h => ?_⟩
    rw [spyref2_Table_UsedBy.p3_eq, if_neg (by rw [dt]; omega), getD_nat _ _ h]
  | succ u ih =>
    intro k b hu hk hb
    have hlt : k < p.2.length := by omega
    obtain ⟨_, g0, g1, _⟩ := ok.at_ k hlt
    have up : ∀ j : Nat, ∀ x : Int, spyref2_Table_UsedBy.p3 j x p.2 p.2.length k s = if p.2[k].2.1 = (j : Int) then spyref2_Table_UsedBy.p3 j (IntKind.i64.wrap (x + (IntKind.i64.wrap (p.2[k].2.2.2.1 * ((s.2.2.getD k []).length : Int))))) p.2 p.2.length ((k + 1 : Nat) : Int) s else spyref2_Table_UsedBy.p3 j x p.2 p.2.length ((k + 1 : Nat) : Int) s := by
      intro j x
      rw [spyref2_Table_UsedBy.p3_eq]
      simp only [if_pos (show decide ((k : Int) < (p.2.length : Int)) = true by rw [dt]; omega), if_pos (show (0 : Int) ≤ k by omega), if_pos (show (k : Int) < p.2.length by omega), if_pos (show (k : Int) < s.2.2.length by omega), toNat_nat, getD_nat _ _ hlt, wi_nat (show k < 9223372036854775807 by omega), eq_t]
    obtain ⟨c, c1, c2, c3⟩ := ih (k + 1) (b.set p.2[k].2.1.toNat (IntKind.i64.wrap ((b.getD p.2[k].2.1.toNat 0) + (IntKind.i64.wrap (p.2[k].2.2.2.1 * ((s.2.2.getD k []).length : Int)))))) (by omega) (by omega) (by simp [hb])
    refine ⟨c, c1, ?_, fun j h => ?_⟩
    · rw [plan_Used.p5_eq]
      simp only [if_pos (show decide ((k : Int) < (p.2.length : Int)) = true by rw [dt]; omega), if_pos (show (0 : Int) ≤ k by omega), if_pos (show (k : Int) < p.2.length by omega), if_pos (show (k : Int) < s.2.2.length by omega), toNat_nat, getD_nat _ _ hlt, wi_nat (show k < 9223372036854775807 by omega), if_pos g0, if_pos (show p.2[k].2.1 < (b.length : Int) by omega)]
      exact c2
    · have := c3 j h
      rw [up]
      by_cases e : p.2[k].2.1 = (j : Int)
      · rw [if_pos e]
        rw [e, toNat_nat] at this
        have es : (b.set j (IntKind.i64.wrap ((b.getD j 0) + (IntKind.i64.wrap (p.2[k].2.2.2.1 * ((s.2.2.getD k []).length : Int)))))).getD j 0 = IntKind.i64.wrap ((b.getD j 0) + (IntKind.i64.wrap (p.2[k].2.2.2.1 * ((s.2.2.getD k []).length : Int)))) := by
          rw [getD_nat _ _ (by simp; omega)]
          simp
        rw [es] at this
        exact this
      · rw [if_neg e]
        have es : ∀ v : Int, (b.set p.2[k].2.1.toNat v).getD j 0 = b.getD j 0 := by
          intro v
          rw [getD_nat _ _ (by simp; omega), getD_nat _ _ (by omega), List.getElem_set_ne (by omega)]
        rw [es] at this
        exact this
theorem states_p10 (n : Night) (m : Mount_) (p : Progr) (s : State_) (c : List Int) (hc : c.length ≤ 6) (hu : ∀ j : Nat, (h : j < c.length) → spyref2_Table_UsedBy.p3 j 0 p.2 p.2.length 0 s = some c[j]) : ∀ (u k : Nat) (b : List Int), c.length - k = u → k ≤ c.length → b.length = c.length → (∀ j, j < k → b[j]? = c[j]?) → spylaw2_PlanStates.p10 c.length k n m p s (n, m, p, []) b = spylaw2_PlanStates.p10 c.length c.length n m p s (n, m, p, []) c := by
  intro u
  induction u with
  | zero =>
    intro k b h0 hk hb hj
    rw [show k = c.length by omega, fill_end hb (fun j h => hj j (by omega))]
  | succ u ih =>
    intro k b h0 hk hb hj
    have hlt : k < c.length := by omega
    rw [spylaw2_PlanStates.p10_eq _ k, if_pos (by rw [dt]; omega), spyref2_Table_UsedBy_eq]
    show ((spyref2_Table_UsedBy.p3 k 0 p.2 p.2.length 0 s).bind _) = _
    rw [hu k hlt, bind_some_, if_pos (by omega), if_pos (by omega), wi_nat (by omega), toNat_nat]
    exact ih (k + 1) _ (by omega) (by omega) (by simp [hb]) (set_fill hlt hb hj)
theorem states_end (n : Night) (m : Mount_) (p : Progr) (s : State_) : ((spyref2_AllFault n m p).bind fun r3 => if (r3 != 0) = false then ((plan_CheckState n m p s).bind fun r4 => (spyref2_Table_StateFault (n, m, p, []) s).bind fun r5 => some (r4 == r5)) else (some true)) = some true := by
  obtain ⟨e, _, h2, h3⟩ := all_same n m p
  rw [h2, bind_some_]
  refine ite_eq (fun q => ?_) (fun _ => rfl)
  rw [ne_f] at q
  exact Same.law (f := fun a b => a == b) (state_same n m p s (h3 q).2) (fun r _ => by simp)
theorem plans_ok : spylaw2_plans = some true := callL_some.2 ⟨400, by kernel_rfl⟩
theorem PlanStates : ∀ (x0 : (Int × Int) × (Int × Int × Int × Int) × Int × Int × Int × (Int × Int × Int) × (Int × Int × Int) × Int × List Int) (x1 : (Int × Int × Int × Int) × (Int × Int × Int × Int) × Int × Int) (x2 : (List (ByteArray × Int)) × List (Int × Int × (Int × Int × Int) × Int × Int × Int × Int × Int × Int × Int × Int)) (x3 : Int × (Int × Int) × List (List Int)), goodT Try.prog (.prod (.prod (.int .i64) (.int .i64)) (.prod (.prod (.int .i64) (.prod (.int .i64) (.prod (.int .i64) (.int .i64)))) (.prod (.int .i64) (.prod (.int .i64) (.prod (.int .i64) (.prod (.prod (.int .i64) (.prod (.int .i64) (.int .i64))) (.prod (.prod (.int .i64) (.prod (.int .i64) (.int .i64))) (.prod (.int .i64) (.list false 3 (.int .i64)))))))))) x0 → goodT Try.prog (.prod (.prod (.int .i64) (.prod (.int .i64) (.prod (.int .i64) (.int .i64)))) (.prod (.prod (.int .i64) (.prod (.int .i64) (.prod (.int .i64) (.int .i64)))) (.prod (.int .i64) (.int .i64)))) x1 → goodT Try.prog (.prod (.list false 99 (.prod .str (.int .i64))) (.list false 102 (.prod (.int .i64) (.prod (.int .i64) (.prod (.prod (.int .i64) (.prod (.int .i64) (.int .i64))) (.prod (.int .i64) (.prod (.int .i64) (.prod (.int .i64) (.prod (.int .i64) (.prod (.int .i64) (.prod (.int .i64) (.prod (.int .i64) (.int .i64))))))))))))) x2 → goodT Try.prog (.prod (.int .i64) (.prod (.prod (.int .i64) (.int .i64)) (.list false 33 (.list false 3 (.int .i64))))) x3 → spylaw2_PlanStates x0 x1 x2 x3 = some true := by
  intro n m p s hn hm hp hs
  have b1 : Try.prog.bytesOf 99 = 24 := by kernel_rfl
  have b2 : 24 ≤ Try.prog.bytesOf 102 := by
    have : Try.prog.bytesOf 102 = 104 := by kernel_rfl
    omega
  have b3 : Try.prog.bytesOf 33 = 24 := by kernel_rfl
  have b4 : Try.prog.bytesOf 3 = 8 := by kernel_rfl
  have l1 : p.1.length * 24 ≤ 140737488351232 := by have := hp.1.2.1; rw [b1] at this; exact this
  have l2 : p.2.length * 24 ≤ 140737488351232 := Nat.le_trans (Nat.mul_le_mul_left _ b2) hp.2.2.1
  have l3 : s.2.2.length * 24 ≤ 140737488351232 := by have := hs.2.2.2.1; rw [b3] at this; exact this
  have l4 : ∀ x, x ∈ s.2.2 → x.length * 8 ≤ 140737488351232 := by
    intro x hx
    have := (hs.2.2.2.2 x hx).2.1
    rw [b4] at this
    exact this
  have first : spyref2_Table_First (n, m, p, []) = some (0, m.2.2, List.replicate p.2.length []) := by
    rw [spyref2_Table_First_eq]
    exact (if_pos rfl).trans ((if_pos (show 0 ≤ (p.2.length : Int) by omega)).trans ((if_pos (show p.2.length * 24 ≤ 140737488355328 by omega)).trans rfl))
  obtain ⟨e, a1, a2, a3⟩ := all_same n m p
  rw [spylaw2_PlanStates_eq, plans_ok, bind_some_, if_pos (by decide), a1, a2, bind_some_, bind_some_, if_pos (by simp), clone_same s (by omega) (fun x hx => by have := l4 x hx; omega), bind_some_, same_state s (by omega) (fun x hx => by have := l4 x hx; omega), bind_some_, if_neg (by decide), if_pos rfl, if_pos (by omega), if_pos (by omega)]
  rw [spylaw2_PlanStates.p4_eq, plan_Start_eq, if_pos rfl, if_pos (by omega), if_pos (by omega), first, bind_some_, bind_some_, same_state _ (by simp; omega) (fun x hx => by have := List.eq_of_mem_replicate hx; subst this; simp), bind_some_, if_neg (by decide)]
  obtain ⟨f, f1, f2, f3⟩ := prog_same p
  have p8 : plan_Used p s = some [] → spylaw2_PlanStates.p8 n m p s (n, m, p, []) = some true := by
    intro h
    rw [spylaw2_PlanStates.p8_eq, h, bind_some_, equal_ints [] (by simp), bind_some_, if_neg (by decide)]
    exact states_end n m p s
  rw [f2, bind_some_]
  by_cases hf : f = 0
  · have ok := f3 hf
    have hnm := ok.names
    rw [if_pos (by rw [ne_f]; exact hf)]
    by_cases hl : (s.2.2.length : Int) = p.2.length
    · rw [if_neg (by rw [ne_t]; exact fun q => q hl)]
      obtain ⟨c, c1, c2, c3⟩ := used_p5 p ok s (by omega) _ 0 (List.replicate p.1.length 0) rfl (by omega) (by simp)
      have c3' : ∀ j : Nat, (h : j < c.length) → spyref2_Table_UsedBy.p3 j 0 p.2 p.2.length 0 s = some c[j] := by
        intro j h
        have := c3 j h
        rw [getD_nat _ _ (by simp; omega), List.getElem_replicate] at this
        exact this
      have q := states_p10 n m p s c (by omega) c3' _ 0 (List.replicate p.1.length 0) rfl (by omega) (by simp [c1]) (fun j h => absurd h (by omega))
      rw [show ((0 : Nat) : Int) = 0 from rfl] at q c2
      have hused : plan_Used p s = some c := by
        rw [plan_Used_eq, f1, bind_some_, if_pos (by rw [ne_f]; exact hf), if_neg (by rw [ne_t]; exact fun q => q hl), if_pos rfl, if_pos (by omega), if_pos (by omega)]
        exact c2
      have el : ((List.replicate p.1.length (0 : Int)).length : Int) = (c.length : Int) := by simp [c1]
      rw [el, q, spylaw2_PlanStates.p10_eq, if_neg (by rw [dt]; omega), hused, bind_some_, equal_ints c (by omega), bind_some_, if_neg (by decide)]
      exact states_end n m p s
    · rw [if_pos (by rw [ne_t]; exact hl)]
      refine p8 ?_
      rw [plan_Used_eq, f1, bind_some_, if_pos (by rw [ne_f]; exact hf), if_pos (by rw [ne_t]; exact hl)]
  · rw [if_neg (by rw [ne_f]; exact hf)]
    refine p8 ?_
    rw [plan_Used_eq, f1, bind_some_, if_neg (by rw [ne_f]; exact hf)]

end Go.Proofs.Ytionphbdphbpnaa.Pure
