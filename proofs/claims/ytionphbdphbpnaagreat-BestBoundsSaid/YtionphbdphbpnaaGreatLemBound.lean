/- Bounds. -/
import Derived.Test.YtionphbdphbpnaaGreatEA0
import Derived.Test.YtionphbdphbpnaaGreatEA1
import Derived.Test.YtionphbdphbpnaaGreatEA2
import Derived.Test.YtionphbdphbpnaaGreatEA3
import Derived.Test.YtionphbdphbpnaaGreatEA4
import Derived.Test.YtionphbdphbpnaaGreatPl
import Derived.Test.YtionphbdphbpnaaGreatLemNum
import Derived.Test.YtionphbdphbpnaaGreatLemDiv
import Derived.Test.YtionphbdphbpnaaGreatLemNight
namespace Go.Proofs.YtionphbdphbpnaaGreat.Pure
set_option linter.unusedVariables false
set_option linter.unusedSimpArgs false
open Go Go.RowKit Go.Proofs.YtionphbdphbpnaaGreat.Pv Go.Proofs.YtionphbdphbpnaaGreat.Pl Go.Proofs.YtionphbdphbpnaaGreat.EA

/-! Bounds: every operation is defined. -/
theorem mulDiv_def' (a b c : Int) : Def (num_MulDiv a b c) := by
  have p14 : ∀ (q r : Int) (mo : Int) (w : Int × Int), Def (num_Wide_Div.p14 q r mo w) := by
    intro q r mo w
    rw [num_Wide_Div.p14_eq]
    repeat' (refine Def.ite (fun _ => ?_) (fun _ => ?_))
    all_goals exact .mk _
  have p6 : ∀ (w m : Int × Int), Def (num_Wide_Div.p6 c w m) := by
    intro w m
    rw [num_Wide_Div.p6_eq]
    refine Def.ite (fun _ => .mk _) (fun hn => ?_)
    rw [dt] at hn
    have h1 := wu_pos c
    have h2 := wu_pos m.1
    refine (div64_def (by omega) (by omega) (by omega)).bind fun _ _ => ?_
    repeat' (refine Def.ite (fun _ => ?_) (fun _ => ?_))
    all_goals exact p14 _ _ _ _
  rw [num_MulDiv_eq]
  refine (product_def a b).bind fun w _ => Def.bind ?_ fun _ _ => .mk _
  rw [num_Wide_Div_eq]
  exact Def.ite (fun _ => .mk _) (fun hn => Def.ite (fun _ => (neg_def _).bind fun _ _ => p6 _ _) (fun _ => p6 _ _))
theorem wideMod_def (w : Int × Int) (d : Int) (hd : d < 18446744073709551616) : Def (num_Wide_Mod w d) := by
  have p6 : ∀ (w m : Int × Int), 1 ≤ d → Def (num_Wide_Mod.p6 d w m) := by
    intro w m h
    rw [num_Wide_Mod.p6_eq, wu_in (x := d) (by omega) (by omega)]
    refine .no (by omega) ?_
    have h1 := wu_pos m.1
    have h2 := Int.tmod_lt_of_pos (IntKind.u64.wrap m.1) (show 0 < d by omega)
    refine (div64_def (by omega) (by omega) h2).bind fun _ _ => ?_
    repeat' (refine Def.ite (fun _ => ?_) (fun _ => ?_))
    all_goals exact .mk _
  rw [num_Wide_Mod_eq]
  refine Def.ite (fun _ => .mk _) (fun hn => ?_)
  rw [dt] at hn
  exact Def.ite (fun _ => (neg_def _).bind fun _ _ => p6 _ _ (by omega)) (fun _ => p6 _ _ (by omega))
theorem wideDiv_def' (w : Int × Int) (d : Int) (hd : d < 9223372036854775808) : Def (num_Wide_Div w d) := wideDiv_def w d hd
theorem mulDivUp_def (a b c : Int) (hc : c < 9223372036854775808) : Def (num_MulDivUp a b c) := by
  rw [num_MulDivUp_eq]
  refine (product_def a b).bind fun w _ => (wideDiv_def w c hc).bind fun _ _ => Def.ite (fun _ => (wideMod_def w c (by omega)).bind fun _ _ => ?_) (fun _ => .mk _)
  repeat' (refine Def.ite (fun _ => ?_) (fun _ => ?_))
  all_goals exact .mk _
abbrev Bd : Type := Int × Int × Bool
/-- What a bound that is not unknown by its own check holds. -/
def InB (b : Bd) : Prop := -1152921504606846976 ≤ b.1 ∧ b.1 ≤ 1152921504606846976 ∧ -1152921504606846976 ≤ b.2.1 ∧ b.2.1 ≤ 1152921504606846976

theorem checkTick (b : Bd) : ∃ e, spyglass_bound_Check_api_Tick b = some e ∧ (e = 0 → InB b) := by
  have p3 : ∃ e, spyglass_bound_Check_api_Tick.p3 b = some e ∧ (e = 0 → InB b) := by
    rw [spyglass_bound_Check_api_Tick.p3_eq]
    simp only [dt, df]
    by_cases h1 : (if b.2.1 < b.1 then b.2.1 else b.1) < (-1152921504606846976)
    · rw [if_neg (fun q => q h1)]
      exact ⟨_, rfl, fun q => by cases q⟩
    · rw [if_pos h1]
      by_cases h2 : (if b.1 < b.2.1 then b.2.1 else b.1) > 1152921504606846976
      · rw [if_pos h2]
        exact ⟨_, rfl, fun q => by cases q⟩
      · rw [if_neg h2]
        have hin : InB b := by
          unfold InB
          refine ⟨?_, ?_, ?_, ?_⟩ <;> (split at h1 <;> split at h2 <;> omega)
        by_cases h3 : b.1 > b.2.1
        · rw [if_pos h3]
          exact ⟨_, rfl, fun q => by cases q⟩
        · rw [if_neg h3]
          exact ⟨_, rfl, fun _ => hin⟩
  rw [spyglass_bound_Check_api_Tick_eq]
  by_cases hu : b.2.2 = true
  · rw [if_pos hu]
    by_cases h1 : b.1 = 0
    · rw [if_pos (by rw [ne_f]; exact h1)]
      by_cases h2 : b.2.1 = 0
      · rw [if_neg (by rw [ne_t]; exact fun q => q h2)]
        exact p3
      · rw [if_pos (by rw [ne_t]; exact h2)]
        exact ⟨_, rfl, fun q => by cases q⟩
    · rw [if_neg (by rw [ne_f]; exact h1)]
      exact ⟨_, rfl, fun q => by cases q⟩
  · rw [if_neg hu]
    exact p3
theorem normTick (b : Bd) : ∃ c, spyglass_bound_Norm_api_Tick b = some c ∧ InB c ∧ (c.2.2 = false → c = b) := by
  obtain ⟨e, h1, h2⟩ := checkTick b
  rw [spyglass_bound_Norm_api_Tick_eq, h1, bind_some_]
  by_cases he : e = 0
  · rw [if_neg (by rw [ne_t]; exact fun q => q he)]
    exact ⟨b, rfl, h2 he, fun _ => rfl⟩
  · rw [if_pos (by rw [ne_t]; exact he), spyglass_bound_None_api_Tick_eq, bind_some_]
    exact ⟨_, rfl, by unfold InB; decide, fun q => by cases q⟩
theorem ofTick (lo hi : Int) : ∃ c, spyglass_bound_Of_api_Tick lo hi = some c ∧ InB c := by
  obtain ⟨c, h1, h2, _⟩ := normTick (lo, hi, false)
  rw [spyglass_bound_Of_api_Tick_eq, h1, bind_some_]
  exact ⟨c, rfl, h2⟩
theorem exactTick (v : Int) : ∃ c, spyglass_bound_Exact_api_Tick v = some c ∧ InB c := by
  obtain ⟨c, h1, h2⟩ := ofTick v v
  rw [spyglass_bound_Exact_api_Tick_eq, h1, bind_some_]
  exact ⟨c, rfl, h2⟩
theorem vagueTick (a b : Bd) : ∃ q, spyglass_bound_vague_api_Tick a b = some q ∧ (q = false → InB a ∧ InB b) := by
  obtain ⟨c, h1, h2, h3⟩ := normTick a
  obtain ⟨d, h4, h5, h6⟩ := normTick b
  rw [spyglass_bound_vague_api_Tick_eq, h1, bind_some_, h4, bind_some_]
  by_cases hc : c.2.2 = false
  · rw [if_pos hc]
    exact ⟨_, rfl, fun q => ⟨h3 hc ▸ h2, h6 q ▸ h5⟩⟩
  · rw [if_neg hc]
    exact ⟨_, rfl, fun q => by cases q⟩
theorem addTick (a b : Bd) : ∃ c, spyglass_bound_Add_api_Tick a b = some c ∧ InB c := by
  obtain ⟨q, h1, h2⟩ := vagueTick a b
  rw [spyglass_bound_Add_api_Tick_eq, h1, bind_some_]
  by_cases hq : q = true
  · rw [if_pos hq, spyglass_bound_None_api_Tick_eq, bind_some_]
    exact ⟨_, rfl, by unfold InB; decide⟩
  · rw [if_neg hq]
    obtain ⟨c, h3, h4⟩ := ofTick (IntKind.i64.wrap (a.1 + b.1)) (IntKind.i64.wrap (a.2.1 + b.2.1))
    rw [h3, bind_some_]
    exact ⟨c, rfl, h4⟩

theorem negTick (b : Bd) : ∃ c, spyglass_bound_Neg_api_Tick b = some c ∧ InB c := by
  obtain ⟨c, h1, h2, _⟩ := normTick b
  rw [spyglass_bound_Neg_api_Tick_eq, h1, bind_some_]
  unfold InB at h2
  refine ⟨_, rfl, ?_⟩
  unfold InB
  simp only
  rw [wi (x := 0 - c.2.1) (by omega) (by omega), wi (x := 0 - c.1) (by omega) (by omega)]
  omega

theorem checkArc (b : Bd) : ∃ e, spyglass_bound_Check_api_Arc b = some e ∧ (e = 0 → InB b) := by
  have p3 : ∃ e, spyglass_bound_Check_api_Arc.p3 b = some e ∧ (e = 0 → InB b) := by
    rw [spyglass_bound_Check_api_Arc.p3_eq]
    simp only [dt, df]
    by_cases h1 : (if b.2.1 < b.1 then b.2.1 else b.1) < (-1152921504606846976)
    · rw [if_neg (fun q => q h1)]
      exact ⟨_, rfl, fun q => by cases q⟩
    · rw [if_pos h1]
      by_cases h2 : (if b.1 < b.2.1 then b.2.1 else b.1) > 1152921504606846976
      · rw [if_pos h2]
        exact ⟨_, rfl, fun q => by cases q⟩
      · rw [if_neg h2]
        have hin : InB b := by
          unfold InB
          refine ⟨?_, ?_, ?_, ?_⟩ <;> (split at h1 <;> split at h2 <;> omega)
        by_cases h3 : b.1 > b.2.1
        · rw [if_pos h3]
          exact ⟨_, rfl, fun q => by cases q⟩
        · rw [if_neg h3]
          exact ⟨_, rfl, fun _ => hin⟩
  rw [spyglass_bound_Check_api_Arc_eq]
  by_cases hu : b.2.2 = true
  · rw [if_pos hu]
    by_cases h1 : b.1 = 0
    · rw [if_pos (by rw [ne_f]; exact h1)]
      by_cases h2 : b.2.1 = 0
      · rw [if_neg (by rw [ne_t]; exact fun q => q h2)]
        exact p3
      · rw [if_pos (by rw [ne_t]; exact h2)]
        exact ⟨_, rfl, fun q => by cases q⟩
    · rw [if_neg (by rw [ne_f]; exact h1)]
      exact ⟨_, rfl, fun q => by cases q⟩
  · rw [if_neg hu]
    exact p3
theorem normArc (b : Bd) : ∃ c, spyglass_bound_Norm_api_Arc b = some c ∧ InB c ∧ (c.2.2 = false → c = b) := by
  obtain ⟨e, h1, h2⟩ := checkArc b
  rw [spyglass_bound_Norm_api_Arc_eq, h1, bind_some_]
  by_cases he : e = 0
  · rw [if_neg (by rw [ne_t]; exact fun q => q he)]
    exact ⟨b, rfl, h2 he, fun _ => rfl⟩
  · rw [if_pos (by rw [ne_t]; exact he), spyglass_bound_None_api_Arc_eq, bind_some_]
    exact ⟨_, rfl, by unfold InB; decide, fun q => by cases q⟩
theorem ofArc (lo hi : Int) : ∃ c, spyglass_bound_Of_api_Arc lo hi = some c ∧ InB c := by
  obtain ⟨c, h1, h2, _⟩ := normArc (lo, hi, false)
  rw [spyglass_bound_Of_api_Arc_eq, h1, bind_some_]
  exact ⟨c, rfl, h2⟩
theorem exactArc (v : Int) : ∃ c, spyglass_bound_Exact_api_Arc v = some c ∧ InB c := by
  obtain ⟨c, h1, h2⟩ := ofArc v v
  rw [spyglass_bound_Exact_api_Arc_eq, h1, bind_some_]
  exact ⟨c, rfl, h2⟩
theorem vagueArc (a b : Bd) : ∃ q, spyglass_bound_vague_api_Arc a b = some q ∧ (q = false → InB a ∧ InB b) := by
  obtain ⟨c, h1, h2, h3⟩ := normArc a
  obtain ⟨d, h4, h5, h6⟩ := normArc b
  rw [spyglass_bound_vague_api_Arc_eq, h1, bind_some_, h4, bind_some_]
  by_cases hc : c.2.2 = false
  · rw [if_pos hc]
    exact ⟨_, rfl, fun q => ⟨h3 hc ▸ h2, h6 q ▸ h5⟩⟩
  · rw [if_neg hc]
    exact ⟨_, rfl, fun q => by cases q⟩
theorem addArc (a b : Bd) : ∃ c, spyglass_bound_Add_api_Arc a b = some c ∧ InB c := by
  obtain ⟨q, h1, h2⟩ := vagueArc a b
  rw [spyglass_bound_Add_api_Arc_eq, h1, bind_some_]
  by_cases hq : q = true
  · rw [if_pos hq, spyglass_bound_None_api_Arc_eq, bind_some_]
    exact ⟨_, rfl, by unfold InB; decide⟩
  · rw [if_neg hq]
    obtain ⟨c, h3, h4⟩ := ofArc (IntKind.i64.wrap (a.1 + b.1)) (IntKind.i64.wrap (a.2.1 + b.2.1))
    rw [h3, bind_some_]
    exact ⟨c, rfl, h4⟩

theorem checkFix (b : Bd) : ∃ e, spyglass_bound_Check_api_Fix b = some e ∧ (e = 0 → InB b) := by
  have p3 : ∃ e, spyglass_bound_Check_api_Fix.p3 b = some e ∧ (e = 0 → InB b) := by
    rw [spyglass_bound_Check_api_Fix.p3_eq]
    simp only [dt, df]
    by_cases h1 : (if b.2.1 < b.1 then b.2.1 else b.1) < (-1152921504606846976)
    · rw [if_neg (fun q => q h1)]
      exact ⟨_, rfl, fun q => by cases q⟩
    · rw [if_pos h1]
      by_cases h2 : (if b.1 < b.2.1 then b.2.1 else b.1) > 1152921504606846976
      · rw [if_pos h2]
        exact ⟨_, rfl, fun q => by cases q⟩
      · rw [if_neg h2]
        have hin : InB b := by
          unfold InB
          refine ⟨?_, ?_, ?_, ?_⟩ <;> (split at h1 <;> split at h2 <;> omega)
        by_cases h3 : b.1 > b.2.1
        · rw [if_pos h3]
          exact ⟨_, rfl, fun q => by cases q⟩
        · rw [if_neg h3]
          exact ⟨_, rfl, fun _ => hin⟩
  rw [spyglass_bound_Check_api_Fix_eq]
  by_cases hu : b.2.2 = true
  · rw [if_pos hu]
    by_cases h1 : b.1 = 0
    · rw [if_pos (by rw [ne_f]; exact h1)]
      by_cases h2 : b.2.1 = 0
      · rw [if_neg (by rw [ne_t]; exact fun q => q h2)]
        exact p3
      · rw [if_pos (by rw [ne_t]; exact h2)]
        exact ⟨_, rfl, fun q => by cases q⟩
    · rw [if_neg (by rw [ne_f]; exact h1)]
      exact ⟨_, rfl, fun q => by cases q⟩
  · rw [if_neg hu]
    exact p3
theorem normFix (b : Bd) : ∃ c, spyglass_bound_Norm_api_Fix b = some c ∧ InB c ∧ (c.2.2 = false → c = b) := by
  obtain ⟨e, h1, h2⟩ := checkFix b
  rw [spyglass_bound_Norm_api_Fix_eq, h1, bind_some_]
  by_cases he : e = 0
  · rw [if_neg (by rw [ne_t]; exact fun q => q he)]
    exact ⟨b, rfl, h2 he, fun _ => rfl⟩
  · rw [if_pos (by rw [ne_t]; exact he), spyglass_bound_None_api_Fix_eq, bind_some_]
    exact ⟨_, rfl, by unfold InB; decide, fun q => by cases q⟩
theorem ofFix (lo hi : Int) : ∃ c, spyglass_bound_Of_api_Fix lo hi = some c ∧ InB c := by
  obtain ⟨c, h1, h2, _⟩ := normFix (lo, hi, false)
  rw [spyglass_bound_Of_api_Fix_eq, h1, bind_some_]
  exact ⟨c, rfl, h2⟩
theorem exactFix (v : Int) : ∃ c, spyglass_bound_Exact_api_Fix v = some c ∧ InB c := by
  obtain ⟨c, h1, h2⟩ := ofFix v v
  rw [spyglass_bound_Exact_api_Fix_eq, h1, bind_some_]
  exact ⟨c, rfl, h2⟩
theorem vagueFix (a b : Bd) : ∃ q, spyglass_bound_vague_api_Fix a b = some q ∧ (q = false → InB a ∧ InB b) := by
  obtain ⟨c, h1, h2, h3⟩ := normFix a
  obtain ⟨d, h4, h5, h6⟩ := normFix b
  rw [spyglass_bound_vague_api_Fix_eq, h1, bind_some_, h4, bind_some_]
  by_cases hc : c.2.2 = false
  · rw [if_pos hc]
    exact ⟨_, rfl, fun q => ⟨h3 hc ▸ h2, h6 q ▸ h5⟩⟩
  · rw [if_neg hc]
    exact ⟨_, rfl, fun q => by cases q⟩
theorem addFix (a b : Bd) : ∃ c, spyglass_bound_Add_api_Fix a b = some c ∧ InB c := by
  obtain ⟨q, h1, h2⟩ := vagueFix a b
  rw [spyglass_bound_Add_api_Fix_eq, h1, bind_some_]
  by_cases hq : q = true
  · rw [if_pos hq, spyglass_bound_None_api_Fix_eq, bind_some_]
    exact ⟨_, rfl, by unfold InB; decide⟩
  · rw [if_neg hq]
    obtain ⟨c, h3, h4⟩ := ofFix (IntKind.i64.wrap (a.1 + b.1)) (IntKind.i64.wrap (a.2.1 + b.2.1))
    rw [h3, bind_some_]
    exact ⟨c, rfl, h4⟩

theorem negFix (b : Bd) : ∃ c, spyglass_bound_Neg_api_Fix b = some c ∧ InB c := by
  obtain ⟨c, h1, h2, _⟩ := normFix b
  rw [spyglass_bound_Neg_api_Fix_eq, h1, bind_some_]
  unfold InB at h2
  refine ⟨_, rfl, ?_⟩
  unfold InB
  simp only
  rw [wi (x := 0 - c.2.1) (by omega) (by omega), wi (x := 0 - c.1) (by omega) (by omega)]
  omega

theorem subTick (a b : Bd) : ∃ c, spyglass_bound_Sub_api_Tick a b = some c ∧ InB c := by
  obtain ⟨c, h1, _⟩ := negTick b
  obtain ⟨d, h2, h3⟩ := addTick a c
  rw [spyglass_bound_Sub_api_Tick_eq, h1, bind_some_, h2, bind_some_]
  exact ⟨d, rfl, h3⟩
theorem minFix {l : List Int} (h : 1 ≤ l.length) (h2 : l.length < 1000) : Def (slices_Min_api_Fix l) := by
  have p5 : ∀ (u : Nat) (m : Int) (i : Nat), l.length - i = u → i ≤ l.length → Def (slices_Min_api_Fix.p5 l m i) := by
    intro u
    induction u with
    | zero =>
      intro m i hu hi
      rw [slices_Min_api_Fix.p5_eq, if_neg (by rw [dt]; omega)]
      exact .mk _
    | succ u ih =>
      intro m i hu hi
      rw [slices_Min_api_Fix.p5_eq, if_pos (by rw [dt]; omega)]
      refine .yes (by omega) (.yes (by omega) ?_)
      rw [wi_nat (by omega)]
      exact ih _ (i + 1) (by omega) (by omega)
  rw [slices_Min_api_Fix_eq]
  refine .no (by rw [dt]; omega) (.yes (by omega) ?_)
  exact p5 _ _ 1 rfl (by omega)
theorem maxFix {l : List Int} (h : 1 ≤ l.length) (h2 : l.length < 1000) : Def (slices_Max_api_Fix l) := by
  have p5 : ∀ (u : Nat) (m : Int) (i : Nat), l.length - i = u → i ≤ l.length → Def (slices_Max_api_Fix.p5 l m i) := by
    intro u
    induction u with
    | zero =>
      intro m i hu hi
      rw [slices_Max_api_Fix.p5_eq, if_neg (by rw [dt]; omega)]
      exact .mk _
    | succ u ih =>
      intro m i hu hi
      rw [slices_Max_api_Fix.p5_eq, if_pos (by rw [dt]; omega)]
      refine .yes (by omega) (.yes (by omega) ?_)
      rw [wi_nat (by omega)]
      exact ih _ (i + 1) (by omega) (by omega)
  rw [slices_Max_api_Fix_eq]
  refine .no (by rw [dt]; omega) (.yes (by omega) ?_)
  exact p5 _ _ 1 rfl (by omega)

theorem step {d u x y1 y2 t23 t24 : Int} {t22 : List Int} {b5 b8 : Bd} {acc : List Int} (hu : u < 9223372036854775808) (hl : acc.length < 1000) (next : ∀ acc' : List Int, acc'.length = acc.length + 4 → ∃ c, spyglass_bound_corners_api_Fix.p3 d u t22 t23 (IntKind.i64.wrap (t24 + 1)) b5 b8 acc' = some c ∧ InB c) : ∃ c, spyglass_bound_corners_api_Fix.p6 d u x t22 t23 t24 [y1, y2] 2 0 b5 b8 acc = some c ∧ InB c := by
  have bad : ∃ c : Bd, ((spyglass_bound_None_api_Fix).bind fun r2 => some r2) = some c ∧ InB c := by
    rw [spyglass_bound_None_api_Fix_eq, bind_some_]
    exact ⟨_, rfl, by unfold InB; decide⟩
  have one : ∀ (y : Int) (acc1 : List Int) (i : Int) (j : Nat), i = j → j < 2 → [y1, y2].getD j 0 = y → acc1.length < 1010 → (∀ r r1 : Int, ∃ c, spyglass_bound_corners_api_Fix.p6 d u x t22 t23 t24 [y1, y2] 2 (IntKind.i64.wrap (i + 1)) b5 b8 (acc1 ++ [r, r1]) = some c ∧ InB c) → ∃ c, spyglass_bound_corners_api_Fix.p6 d u x t22 t23 t24 [y1, y2] 2 i b5 b8 acc1 = some c ∧ InB c := by
    intro y acc1 i j hi hj hy hl1 hn
    rw [spyglass_bound_corners_api_Fix.p6_eq, if_pos (by rw [dt]; omega), if_pos (by omega), if_pos (by simp; omega), hi, toNat_nat, hy]
    obtain ⟨r, hr⟩ : Def (spyglass_bound_Mul_api_Fix_c1 x y d) := by
      rw [spyglass_bound_Mul_api_Fix_c1_eq]
      exact (mulDiv_def' _ _ _).bind fun _ _ => .mk _
    obtain ⟨r1, hr1⟩ : Def (spyglass_bound_Mul_api_Fix_c2 x y u) := by
      rw [spyglass_bound_Mul_api_Fix_c2_eq]
      exact (mulDivUp_def _ _ _ hu).bind fun _ _ => .mk _
    rw [hr, hr1, bind_some_, bind_some_]
    by_cases e1 : r.2 = 0
    · rw [if_pos (by rw [ne_f]; exact e1)]
      by_cases e2 : r1.2 = 0
      · rw [if_neg (by rw [ne_t]; exact fun q => q e2), if_pos (by omega)]
        have := hn r.1 r1.1
        rw [hi] at this
        exact this
      · rw [if_pos (by rw [ne_t]; exact e2)]
        exact bad
    · rw [if_neg (by rw [ne_f]; exact e1)]
      exact bad
  refine one y1 acc 0 0 rfl (by omega) rfl (by omega) fun r r1 => ?_
  rw [show IntKind.i64.wrap (0 + 1) = 1 from by decide +kernel]
  refine one y2 _ 1 1 rfl (by omega) rfl (by simp; omega) fun r2 r3 => ?_
  rw [show IntKind.i64.wrap (1 + 1) = 2 from by decide +kernel, spyglass_bound_corners_api_Fix.p6_eq, if_neg (by decide)]
  exact next _ (by simp)
theorem corners {d u : Int} {a b : Bd} (hu : u < 9223372036854775808) : ∃ c, spyglass_bound_corners_api_Fix a b d u = some c ∧ InB c := by
  rw [spyglass_bound_corners_api_Fix_eq, spyglass_bound_corners_api_Fix.p3_eq, if_pos (by decide), if_pos (by decide), if_pos (by simp)]
  refine step hu (by simp) fun acc hacc => ?_
  rw [show IntKind.i64.wrap (0 + 1) = 1 from by decide +kernel, spyglass_bound_corners_api_Fix.p3_eq, if_pos (by decide), if_pos (by decide), if_pos (by simp)]
  refine step hu (by simp at hacc; omega) fun acc' hacc' => ?_
  rw [show IntKind.i64.wrap (1 + 1) = 2 from by decide +kernel, spyglass_bound_corners_api_Fix.p3_eq, if_neg (by decide)]
  simp at hacc
  obtain ⟨x, hx⟩ := minFix (l := acc') (by omega) (by omega)
  obtain ⟨y, hy⟩ := maxFix (l := acc') (by omega) (by omega)
  obtain ⟨c, h1, h2⟩ := ofFix x y
  rw [hx, hy, bind_some_, bind_some_, h1, bind_some_]
  exact ⟨c, rfl, h2⟩

theorem step_1 {d u x y1 y2 t23 t24 : Int} {t22 : List Int} {b5 b8 : Bd} {acc : List Int} (h1 : y1 < 9223372036854775808) (h2 : y2 < 9223372036854775808) (hl : acc.length < 1000) (next : ∀ acc' : List Int, acc'.length = acc.length + 4 → ∃ c, spyglass_bound_corners_api_Fix_1.p3 d u t22 t23 (IntKind.i64.wrap (t24 + 1)) b5 b8 acc' = some c ∧ InB c) : ∃ c, spyglass_bound_corners_api_Fix_1.p6 d u x t22 t23 t24 [y1, y2] 2 0 b5 b8 acc = some c ∧ InB c := by
  have bad : ∃ c : Bd, ((spyglass_bound_None_api_Fix).bind fun r2 => some r2) = some c ∧ InB c := by
    rw [spyglass_bound_None_api_Fix_eq, bind_some_]
    exact ⟨_, rfl, by unfold InB; decide⟩
  have one : ∀ (y : Int) (acc1 : List Int) (i : Int) (j : Nat), i = j → j < 2 → [y1, y2].getD j 0 = y → acc1.length < 1010 → (∀ r r1 : Int, ∃ c, spyglass_bound_corners_api_Fix_1.p6 d u x t22 t23 t24 [y1, y2] 2 (IntKind.i64.wrap (i + 1)) b5 b8 (acc1 ++ [r, r1]) = some c ∧ InB c) → ∃ c, spyglass_bound_corners_api_Fix_1.p6 d u x t22 t23 t24 [y1, y2] 2 i b5 b8 acc1 = some c ∧ InB c := by
    intro y acc1 i j hi hj hy hl1 hn
    rw [spyglass_bound_corners_api_Fix_1.p6_eq, if_pos (by rw [dt]; omega), if_pos (by omega), if_pos (by simp; omega), hi, toNat_nat, hy]
    obtain ⟨r, hr⟩ : Def (spyglass_bound_Div_api_Fix_c1 x y d) := by
      rw [spyglass_bound_Div_api_Fix_c1_eq]
      exact (mulDiv_def' _ _ _).bind fun _ _ => .mk _
    obtain ⟨r1, hr1⟩ : Def (spyglass_bound_Div_api_Fix_c2 x y u) := by
      rw [spyglass_bound_Div_api_Fix_c2_eq]
      exact (mulDivUp_def _ _ _ (by rcases (show j = 0 ∨ j = 1 by omega) with rfl | rfl <;> (subst hy; assumption))).bind fun _ _ => .mk _
    rw [hr, hr1, bind_some_, bind_some_]
    by_cases e1 : r.2 = 0
    · rw [if_pos (by rw [ne_f]; exact e1)]
      by_cases e2 : r1.2 = 0
      · rw [if_neg (by rw [ne_t]; exact fun q => q e2), if_pos (by omega)]
        have := hn r.1 r1.1
        rw [hi] at this
        exact this
      · rw [if_pos (by rw [ne_t]; exact e2)]
        exact bad
    · rw [if_neg (by rw [ne_f]; exact e1)]
      exact bad
  refine one y1 acc 0 0 rfl (by omega) rfl (by omega) fun r r1 => ?_
  rw [show IntKind.i64.wrap (0 + 1) = 1 from by decide +kernel]
  refine one y2 _ 1 1 rfl (by omega) rfl (by simp; omega) fun r2 r3 => ?_
  rw [show IntKind.i64.wrap (1 + 1) = 2 from by decide +kernel, spyglass_bound_corners_api_Fix_1.p6_eq, if_neg (by decide)]
  exact next _ (by simp)
theorem corners_1 {d u : Int} {a b : Bd} (h1 : b.1 < 9223372036854775808) (h2 : b.2.1 < 9223372036854775808) : ∃ c, spyglass_bound_corners_api_Fix_1 a b d u = some c ∧ InB c := by
  rw [spyglass_bound_corners_api_Fix_1_eq, spyglass_bound_corners_api_Fix_1.p3_eq, if_pos (by decide), if_pos (by decide), if_pos (by simp)]
  refine step_1 h1 h2 (by simp) fun acc hacc => ?_
  rw [show IntKind.i64.wrap (0 + 1) = 1 from by decide +kernel, spyglass_bound_corners_api_Fix_1.p3_eq, if_pos (by decide), if_pos (by decide), if_pos (by simp)]
  refine step_1 h1 h2 (by simp at hacc; omega) fun acc' hacc' => ?_
  rw [show IntKind.i64.wrap (1 + 1) = 2 from by decide +kernel, spyglass_bound_corners_api_Fix_1.p3_eq, if_neg (by decide)]
  simp at hacc
  obtain ⟨x, hx⟩ := minFix (l := acc') (by omega) (by omega)
  obtain ⟨y, hy⟩ := maxFix (l := acc') (by omega) (by omega)
  obtain ⟨c, h1, h2⟩ := ofFix x y
  rw [hx, hy, bind_some_, bind_some_, h1, bind_some_]
  exact ⟨c, rfl, h2⟩

theorem bad_fix : ∃ c : Bd, ((spyglass_bound_None_api_Fix).bind fun r2 => some r2) = some c ∧ InB c := by
  rw [spyglass_bound_None_api_Fix_eq, bind_some_]
  exact ⟨_, rfl, by unfold InB; decide⟩
theorem mulFix (a b : Bd) (u : Int) (hu : u < 9223372036854775808) : ∃ c, spyglass_bound_Mul_api_Fix a b u = some c ∧ InB c := by
  obtain ⟨q, h1, _⟩ := vagueFix a b
  rw [spyglass_bound_Mul_api_Fix_eq, h1, bind_some_]
  by_cases hq : q = false
  · rw [if_pos hq]
    by_cases hc : u < 1
    · rw [if_pos (by rw [dt]; exact hc)]
      exact bad_fix
    · rw [if_neg (by rw [dt]; exact hc)]
      obtain ⟨c, h2, h3⟩ := corners (d := u) (u := u) (a := a) (b := b) hu
      rw [h2, bind_some_]
      exact ⟨c, rfl, h3⟩
  · rw [if_neg hq]
    exact bad_fix
theorem scaleFix (a : Bd) (n d : Int) (hd : d < 9223372036854775808) : ∃ c, spyglass_bound_Scale_api_Fix a n d = some c ∧ InB c := by
  obtain ⟨e, h1, _⟩ := exactFix n
  obtain ⟨c, h2, h3⟩ := mulFix a e d hd
  rw [spyglass_bound_Scale_api_Fix_eq, h1, bind_some_, h2, bind_some_]
  exact ⟨c, rfl, h3⟩
theorem rootFix (a : Bd) (u : Int) : ∃ c, spyglass_bound_Root_api_Fix a u = some c ∧ InB c := by
  obtain ⟨q, h1, _⟩ := vagueFix a a
  rw [spyglass_bound_Root_api_Fix_eq, h1, bind_some_]
  by_cases hq : q = false
  · rw [if_pos hq]
    by_cases hc : u < 1
    · rw [if_neg (by rw [df]; exact fun q => q hc)]
      exact bad_fix
    · rw [if_pos (by rw [df]; exact hc)]
      by_cases hn : a.2.1 < 0
      · rw [if_pos (by rw [dt]; exact hn)]
        exact bad_fix
      · rw [if_neg (by rw [dt]; exact hn)]
        obtain ⟨x, hx⟩ := sqrtMul_def (if a.1 < 0 then 0 else a.1) u
        obtain ⟨y, hy⟩ := sqrtMul_def a.2.1 u
        obtain ⟨z, hz⟩ := product_def y y
        obtain ⟨t, ht⟩ := product_def a.2.1 u
        obtain ⟨w, hw⟩ : Def (num_Wide_Cmp z t) := by
          rw [num_Wide_Cmp_eq, compare_i, compare_u, bind_some_, bind_some_, or_two]
          exact .mk _
        rw [hx, hy, bind_some_, bind_some_, hz, ht, bind_some_, bind_some_, hw, bind_some_]
        by_cases hc2 : w < 0
        · rw [if_pos (by rw [dt]; exact hc2)]
          obtain ⟨c, h2, h3⟩ := ofFix x (IntKind.i64.wrap (y + 1))
          rw [h2, bind_some_]
          exact ⟨c, rfl, h3⟩
        · rw [if_neg (by rw [dt]; exact hc2)]
          obtain ⟨c, h2, h3⟩ := ofFix x y
          rw [h2, bind_some_]
          exact ⟨c, rfl, h3⟩
  · rw [if_neg hq]
    exact bad_fix
theorem divFix (a b : Bd) (u : Int) : ∃ c, spyglass_bound_Div_api_Fix a b u = some c ∧ InB c := by
  obtain ⟨q, h1, h2⟩ := vagueFix a b
  rw [spyglass_bound_Div_api_Fix_eq, h1, bind_some_]
  by_cases hq : q = false
  · rw [if_pos hq]
    obtain ⟨ia, ib⟩ := h2 hq
    unfold InB at ib
    have p3 : ∃ c, spyglass_bound_Div_api_Fix.p3 a b u (0, 0, false) = some c ∧ InB c := by
      rw [spyglass_bound_Div_api_Fix.p3_eq]
      by_cases hn : b.2.1 < 0
      · rw [if_pos (by rw [dt]; exact hn)]
        obtain ⟨x, hx, _⟩ := negFix a
        obtain ⟨y, hy, iy⟩ := negFix b
        unfold InB at iy
        obtain ⟨c, h3, h4⟩ := corners_1 (d := u) (u := u) (a := x) (b := y) (by omega) (by omega)
        rw [hx, hy, bind_some_, bind_some_, h3, bind_some_]
        exact ⟨c, rfl, h4⟩
      · rw [if_neg (by rw [dt]; exact hn)]
        obtain ⟨c, h3, h4⟩ := corners_1 (d := u) (u := u) (a := a) (b := b) (by omega) (by omega)
        rw [h3, bind_some_]
        exact ⟨c, rfl, h4⟩
    by_cases hc : u < 1
    · rw [if_neg (by rw [df]; exact fun q => q hc)]
      exact bad_fix
    · rw [if_pos (by rw [df]; exact hc)]
      by_cases h3 : b.1 ≤ 0
      · rw [if_pos (by rw [dt]; exact h3)]
        by_cases h4 : b.2.1 ≥ 0
        · rw [if_pos (by rw [dt]; exact h4)]
          exact bad_fix
        · rw [if_neg (by rw [dt]; exact h4)]
          exact p3
      · rw [if_neg (by rw [dt]; exact h3)]
        exact p3
  · rw [if_neg hq]
    exact bad_fix
theorem meetFix (a b : Bd) : Def (spyglass_bound_Meet_api_Fix a b) := by
  obtain ⟨c, h1, _⟩ := normFix a
  obtain ⟨d, h2, _⟩ := normFix b
  rw [spyglass_bound_Meet_api_Fix_eq, h1, h2, bind_some_, bind_some_]
  refine Def.ite (fun _ => .mk _) (fun _ => Def.ite (fun _ => .mk _) (fun _ => Def.ite (fun _ => .mk _) (fun _ => ?_)))
  obtain ⟨e, h3, _⟩ := ofFix (if c.1 < d.1 then d.1 else c.1) (if d.2.1 < c.2.1 then d.2.1 else c.2.1)
  rw [h3, bind_some_]
  exact .mk _

end Go.Proofs.YtionphbdphbpnaaGreat.Pure
