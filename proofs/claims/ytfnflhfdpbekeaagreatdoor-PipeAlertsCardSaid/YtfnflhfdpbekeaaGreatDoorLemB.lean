/- Ranges of boxes, shares of boxes: defined. -/
import Derived.Test.YtfnflhfdpbekeaaGreatDoorEA0
import Derived.Test.YtfnflhfdpbekeaaGreatDoorEA1
import Derived.Test.YtfnflhfdpbekeaaGreatDoorEA2
import Derived.Test.YtfnflhfdpbekeaaGreatDoorPl
import Derived.Test.YtfnflhfdpbekeaaGreatDoorLemA
namespace Go.Proofs.YtfnflhfdpbekeaaGreatDoor.Pure
set_option linter.unusedVariables false
set_option linter.unusedSimpArgs false
open Go Go.RowKit Go.Proofs.YtfnflhfdpbekeaaGreatDoor.Pv Go.Proofs.YtfnflhfdpbekeaaGreatDoor.Pl Go.Proofs.YtfnflhfdpbekeaaGreatDoor.EA

/-! Ranges of boxes are defined; shares of boxes are. -/
abbrev Bd : Type := Int × Int × Bool
/-- What a bound that is not unknown by its own check holds. -/
def InB (b : Bd) : Prop := -1152921504606846976 ≤ b.1 ∧ b.1 ≤ 1152921504606846976 ∧ -1152921504606846976 ≤ b.2.1 ∧ b.2.1 ≤ 1152921504606846976

theorem checkCoord (b : Bd) : ∃ e, spyglass_bound_Check_api_Coord b = some e ∧ (e = 0 → InB b) := by
  have p3 : ∃ e, spyglass_bound_Check_api_Coord.p3 b = some e ∧ (e = 0 → InB b) := by
    rw [spyglass_bound_Check_api_Coord.p3_eq]
    simp only [dt, df]
    by_cases h1 : (if b.2.1 < b.1 then b.2.1 else b.1) < (-1152921504606846976)
    · rw [if_neg (fun q => q h1)]
      exact ⟨_, rfl, fun q => by cases q⟩
    · rw [if_pos h1]
      by_cases h2 : (if b.1 < b.2.1 then b.2.1 else b.1) > 1152921504606846976
      · rw [if_pos h2]
        exact ⟨_, rfl, fun q => by cases q⟩
      · rw [if_neg h2]
        have hin : InB b := by
          unfold InB
          refine ⟨?_, ?_, ?_, ?_⟩ <;> (split at h1 <;> split at h2 <;> omega)
        by_cases h3 : b.1 > b.2.1
        · rw [if_pos h3]
          exact ⟨_, rfl, fun q => by cases q⟩
        · rw [if_neg h3]
          exact ⟨_, rfl, fun _ => hin⟩
  rw [spyglass_bound_Check_api_Coord_eq]
  by_cases hu : b.2.2 = true
  · rw [if_pos hu]
    by_cases h1 : b.1 = 0
    · rw [if_pos (by rw [ne_f]; exact h1)]
      by_cases h2 : b.2.1 = 0
      · rw [if_neg (by rw [ne_t]; exact fun q => q h2)]
        exact p3
      · rw [if_pos (by rw [ne_t]; exact h2)]
        exact ⟨_, rfl, fun q => by cases q⟩
    · rw [if_neg (by rw [ne_f]; exact h1)]
      exact ⟨_, rfl, fun q => by cases q⟩
  · rw [if_neg hu]
    exact p3
theorem normCoord (b : Bd) : ∃ c, spyglass_bound_Norm_api_Coord b = some c ∧ InB c ∧ (c.2.2 = false → c = b) := by
  obtain ⟨e, h1, h2⟩ := checkCoord b
  rw [spyglass_bound_Norm_api_Coord_eq, h1, bind_some_]
  by_cases he : e = 0
  · rw [if_neg (by rw [ne_t]; exact fun q => q he)]
    exact ⟨b, rfl, h2 he, fun _ => rfl⟩
  · rw [if_pos (by rw [ne_t]; exact he), spyglass_bound_None_api_Coord_eq, bind_some_]
    exact ⟨_, rfl, by unfold InB; decide, fun q => by cases q⟩
theorem checkQuanta (b : Bd) : ∃ e, spyglass_bound_Check_api_Quanta b = some e ∧ (e = 0 → InB b) := by
  have p3 : ∃ e, spyglass_bound_Check_api_Quanta.p3 b = some e ∧ (e = 0 → InB b) := by
    rw [spyglass_bound_Check_api_Quanta.p3_eq]
    simp only [dt, df]
    by_cases h1 : (if b.2.1 < b.1 then b.2.1 else b.1) < (-1152921504606846976)
    · rw [if_neg (fun q => q h1)]
      exact ⟨_, rfl, fun q => by cases q⟩
    · rw [if_pos h1]
      by_cases h2 : (if b.1 < b.2.1 then b.2.1 else b.1) > 1152921504606846976
      · rw [if_pos h2]
        exact ⟨_, rfl, fun q => by cases q⟩
      · rw [if_neg h2]
        have hin : InB b := by
          unfold InB
          refine ⟨?_, ?_, ?_, ?_⟩ <;> (split at h1 <;> split at h2 <;> omega)
        by_cases h3 : b.1 > b.2.1
        · rw [if_pos h3]
          exact ⟨_, rfl, fun q => by cases q⟩
        · rw [if_neg h3]
          exact ⟨_, rfl, fun _ => hin⟩
  rw [spyglass_bound_Check_api_Quanta_eq]
  by_cases hu : b.2.2 = true
  · rw [if_pos hu]
    by_cases h1 : b.1 = 0
    · rw [if_pos (by rw [ne_f]; exact h1)]
      by_cases h2 : b.2.1 = 0
      · rw [if_neg (by rw [ne_t]; exact fun q => q h2)]
        exact p3
      · rw [if_pos (by rw [ne_t]; exact h2)]
        exact ⟨_, rfl, fun q => by cases q⟩
    · rw [if_neg (by rw [ne_f]; exact h1)]
      exact ⟨_, rfl, fun q => by cases q⟩
  · rw [if_neg hu]
    exact p3
theorem normQuanta (b : Bd) : ∃ c, spyglass_bound_Norm_api_Quanta b = some c ∧ InB c ∧ (c.2.2 = false → c = b) := by
  obtain ⟨e, h1, h2⟩ := checkQuanta b
  rw [spyglass_bound_Norm_api_Quanta_eq, h1, bind_some_]
  by_cases he : e = 0
  · rw [if_neg (by rw [ne_t]; exact fun q => q he)]
    exact ⟨b, rfl, h2 he, fun _ => rfl⟩
  · rw [if_pos (by rw [ne_t]; exact he), spyglass_bound_None_api_Quanta_eq, bind_some_]
    exact ⟨_, rfl, by unfold InB; decide, fun q => by cases q⟩
theorem vagueQuanta (a b : Bd) : ∃ q, spyglass_bound_vague_api_Quanta a b = some q ∧ (q = false → InB a ∧ InB b) := by
  obtain ⟨c, h1, h2, h3⟩ := normQuanta a
  obtain ⟨d, h4, h5, h6⟩ := normQuanta b
  rw [spyglass_bound_vague_api_Quanta_eq, h1, bind_some_, h4, bind_some_]
  by_cases hc : c.2.2 = false
  · rw [if_pos hc]
    exact ⟨_, rfl, fun q => ⟨h3 hc ▸ h2, h6 q ▸ h5⟩⟩
  · rw [if_neg hc]
    exact ⟨_, rfl, fun q => by cases q⟩
theorem checkArc (b : Bd) : ∃ e, spyglass_bound_Check_api_Arc b = some e ∧ (e = 0 → InB b) := by
  have p3 : ∃ e, spyglass_bound_Check_api_Arc.p3 b = some e ∧ (e = 0 → InB b) := by
    rw [spyglass_bound_Check_api_Arc.p3_eq]
    simp only [dt, df]
    by_cases h1 : (if b.2.1 < b.1 then b.2.1 else b.1) < (-1152921504606846976)
    · rw [if_neg (fun q => q h1)]
      exact ⟨_, rfl, fun q => by cases q⟩
    · rw [if_pos h1]
      by_cases h2 : (if b.1 < b.2.1 then b.2.1 else b.1) > 1152921504606846976
      · rw [if_pos h2]
        exact ⟨_, rfl, fun q => by cases q⟩
      · rw [if_neg h2]
        have hin : InB b := by
          unfold InB
          refine ⟨?_, ?_, ?_, ?_⟩ <;> (split at h1 <;> split at h2 <;> omega)
        by_cases h3 : b.1 > b.2.1
        · rw [if_pos h3]
          exact ⟨_, rfl, fun q => by cases q⟩
        · rw [if_neg h3]
          exact ⟨_, rfl, fun _ => hin⟩
  rw [spyglass_bound_Check_api_Arc_eq]
  by_cases hu : b.2.2 = true
  · rw [if_pos hu]
    by_cases h1 : b.1 = 0
    · rw [if_pos (by rw [ne_f]; exact h1)]
      by_cases h2 : b.2.1 = 0
      · rw [if_neg (by rw [ne_t]; exact fun q => q h2)]
        exact p3
      · rw [if_pos (by rw [ne_t]; exact h2)]
        exact ⟨_, rfl, fun q => by cases q⟩
    · rw [if_neg (by rw [ne_f]; exact h1)]
      exact ⟨_, rfl, fun q => by cases q⟩
  · rw [if_neg hu]
    exact p3
theorem normArc (b : Bd) : ∃ c, spyglass_bound_Norm_api_Arc b = some c ∧ InB c ∧ (c.2.2 = false → c = b) := by
  obtain ⟨e, h1, h2⟩ := checkArc b
  rw [spyglass_bound_Norm_api_Arc_eq, h1, bind_some_]
  by_cases he : e = 0
  · rw [if_neg (by rw [ne_t]; exact fun q => q he)]
    exact ⟨b, rfl, h2 he, fun _ => rfl⟩
  · rw [if_pos (by rw [ne_t]; exact he), spyglass_bound_None_api_Arc_eq, bind_some_]
    exact ⟨_, rfl, by unfold InB; decide, fun q => by cases q⟩
theorem ofArc (lo hi : Int) : ∃ c, spyglass_bound_Of_api_Arc lo hi = some c ∧ InB c := by
  obtain ⟨c, h1, h2, _⟩ := normArc (lo, hi, false)
  rw [spyglass_bound_Of_api_Arc_eq, h1, bind_some_]
  exact ⟨c, rfl, h2⟩
theorem pfloor_def (a b : Int) : Def (num_FloorDiv a b) := by
  rw [num_FloorDiv_eq]
  refine Def.ite (fun _ => .mk _) (fun h => ?_)
  rw [dt] at h
  exact .no (by omega) (.no (by omega) (Def.ite (fun _ => .mk _) (fun _ => .mk _)))
theorem pmod_def (a b : Int) : Def (num_Mod a b) := by
  rw [num_Mod_eq]
  refine Def.ite (fun _ => .mk _) (fun h => ?_)
  rw [dt] at h
  exact .no (by omega) (Def.ite (fun _ => .mk _) (fun _ => .mk _))
theorem psqrt_def (a : Int) : Def (num_Sqrt a) := by
  rw [num_Sqrt_eq]
  exact (sqrtMul_def _ _).bind fun _ _ => .mk _
theorem octant_p2 (y x : Int) : ∀ (u : Nat) (lo hi : Int), 0 ≤ lo → lo ≤ hi → hi ≤ 536870913 → hi - lo ≤ u → Def (trig_octant.p2 y x lo hi) := by
  intro u
  induction u with
  | zero =>
    intro lo hi h0 h1 h2 h3
    rw [trig_octant.p2_eq, wi (x := hi - lo) (by omega) (by omega), if_neg (by rw [dt]; omega)]
    exact .mk _
  | succ u ih =>
    intro lo hi h0 h1 h2 h3
    rw [trig_octant.p2_eq, wi (x := hi - lo) (by omega) (by omega), wi (x := lo + hi) (by omega) (by omega), Int.tdiv_eq_ediv_of_nonneg (by omega), wi (x := (lo + hi) / 2) (by omega) (by omega)]
    refine Def.ite (fun h => ?_) (fun _ => .mk _)
    rw [dt] at h
    exact (sin_def _).bind fun _ _ => (cos_def _).bind fun _ _ => Def.ite (fun _ => ih _ _ (by omega) (by omega) (by omega) (by omega)) (fun _ => ih _ _ (by omega) (by omega) (by omega) (by omega))
theorem octant_def (y x : Int) : Def (trig_octant y x) := by
  rw [trig_octant_eq]
  exact octant_p2 y x 536870913 0 536870913 (by omega) (by omega) (by omega) (by omega)
theorem atan_p10 (y x a : Int) : Def (trig_Atan2.p10 y x a) := by
  rw [trig_Atan2.p10_eq]
  repeat' (refine Def.ite (fun _ => ?_) (fun _ => ?_))
  all_goals exact .mk _
theorem atan_p5 (y x : Int) : Def (trig_Atan2.p5 y x) := by
  rw [trig_Atan2.p5_eq]
  exact Def.ite (fun _ => (octant_def _ _).bind fun _ _ => atan_p10 _ _ _) (fun _ => (octant_def _ _).bind fun _ _ => atan_p10 _ _ _)
theorem atan2_def (y x : Int) : Def (trig_Atan2 y x) := by
  rw [trig_Atan2_eq]
  repeat' (refine Def.ite (fun _ => ?_) (fun _ => ?_))
  all_goals first | exact .mk _ | exact atan_p5 _ _
/-! The ends grow. -/
abbrev T3 : Type := Int × Int × Int
theorem grown_p17 (up down : Int) (a b l h : T3) : Def (sphere_grown.p17 up down a b l h) := by
  have p3 : ∀ l h, Def (sphere_grown.p17v3 up down a b l h) := by
    intro l h
    rw [sphere_grown.p17v3_eq]
    exact .mk _
  have p2 : ∀ l h, Def (sphere_grown.p17v2 up down a b l h) := by
    intro l h
    rw [sphere_grown.p17v2_eq]
    exact (pfloor_def _ _).bind fun _ _ => (ceilDiv_def _ _).bind fun _ _ => p3 _ _
  have p1 : ∀ l h, Def (sphere_grown.p17v1 up down a b l h) := by
    intro l h
    rw [sphere_grown.p17v1_eq]
    exact (pfloor_def _ _).bind fun _ _ => (ceilDiv_def _ _).bind fun _ _ => p2 _ _
  rw [sphere_grown.p17_eq]
  exact (pfloor_def _ _).bind fun _ _ => (ceilDiv_def _ _).bind fun _ _ => p1 _ _
theorem pow_in {n : Nat} (h : n ≤ 30) : (1 : Int) ≤ 2 ^ n ∧ (2 : Int) ^ n ≤ 1073741824 := by
  have h1 : (2 : Nat) ^ n ≤ 2 ^ 30 := Nat.pow_le_pow_right (by omega) h
  have h2 : 1 ≤ (2 : Nat) ^ n := Nat.one_le_two_pow
  have e : ((2 ^ n : Nat) : Int) = (2 : Int) ^ n := by simp
  rw [← e]
  omega
theorem pow_next {n : Nat} (h : n ≤ 29) : IntKind.i64.wrap ((2 : Int) ^ n * 2) = 2 ^ (n + 1) := by
  have h1 := pow_in (n := n + 1) (by omega)
  rw [← Int.pow_succ, wi (by omega) (by omega)]
theorem grown_p14 (most up : Int) (a b l h : T3) (h0 : 0 ≤ most) (h1 : most ≤ 1152921504606846976) : ∀ u : Nat, u ≤ 30 → Def (sphere_grown.p14 most up ((2 : Int) ^ (30 - u)) a b l h) := by
  intro u
  induction u with
  | zero =>
    intro _
    rw [sphere_grown.p14_eq, show (2 : Int) ^ (30 - 0) = 1073741824 from by decide, num_CeilDiv_eq, if_neg (by decide), if_neg (by decide), if_neg (by decide), Int.tdiv_eq_ediv_of_nonneg h0, Int.tmod_eq_emod_of_nonneg h0]
    by_cases hq : most % 1073741824 > 0
    · rw [if_pos (by rw [dt]; exact hq), bind_some_, wi (x := most / 1073741824) (by omega) (by omega), wi (by omega) (by omega), if_neg (by rw [dt]; omega)]
      exact grown_p17 _ _ _ _ _ _
    · rw [if_neg (by rw [dt]; exact hq), bind_some_, wi (x := most / 1073741824) (by omega) (by omega), if_neg (by rw [dt]; omega)]
      exact grown_p17 _ _ _ _ _ _
  | succ u ih =>
    intro hu
    rw [sphere_grown.p14_eq]
    refine (ceilDiv_def _ _).bind fun _ _ => Def.ite (fun _ => ?_) (fun _ => grown_p17 _ _ _ _ _ _)
    rw [pow_next (by omega), show 30 - (u + 1) + 1 = 30 - u from by omega]
    exact ih (by omega)
theorem grown_p12 (most : Int) (a b l h : T3) (h0 : 1 ≤ most) (hm : most ≤ 1152921504606846976) : ∀ u : Nat, u ≤ 29 → most * (2 : Int) ^ (29 - u) ≤ 1152921504606846976 → Def (sphere_grown.p12 most ((2 : Int) ^ (29 - u)) 1 a b l h) := by
  have go : ∀ up, Def (sphere_grown.p14 most up 1 a b l h) := fun up => grown_p14 most up a b l h (by omega) hm 30 (by omega)
  intro u
  induction u with
  | zero =>
    intro _ h1
    rw [show (2 : Int) ^ (29 - 0) = 536870912 from by decide] at h1 ⊢
    rw [sphere_grown.p12_eq, wi (x := most * 536870912) (by omega) (by omega), if_neg (by rw [dt]; omega)]
    exact go _
  | succ u ih =>
    intro hu h1
    have h2 : 0 ≤ most * (2 : Int) ^ (29 - (u + 1)) := Int.mul_nonneg (by omega) (by have := pow_in (n := 29 - (u + 1)) (by omega); omega)
    rw [sphere_grown.p12_eq, wi (x := most * (2 : Int) ^ (29 - (u + 1))) (by omega) (by omega)]
    refine Def.ite (fun hc => ?_) (fun _ => go _)
    rw [dt] at hc
    rw [pow_next (by omega), show 29 - (u + 1) + 1 = 29 - u from by omega]
    refine ih (by omega) ?_
    rw [show 29 - u = 29 - (u + 1) + 1 from by omega, Int.pow_succ, ← Int.mul_assoc]
    omega
theorem up_most {m a b : Int} (h0 : 0 ≤ m) (h1 : m ≤ 1152921504606846976) (ha : -1152921504606846976 ≤ a) (ha1 : a ≤ 1152921504606846976) (hb : b ≤ 1152921504606846976) :
    0 ≤ (if (if m < (IntKind.i64.wrap (0 - a)) then (IntKind.i64.wrap (0 - a)) else m) < b then b else (if m < (IntKind.i64.wrap (0 - a)) then (IntKind.i64.wrap (0 - a)) else m)) ∧
    (if (if m < (IntKind.i64.wrap (0 - a)) then (IntKind.i64.wrap (0 - a)) else m) < b then b else (if m < (IntKind.i64.wrap (0 - a)) then (IntKind.i64.wrap (0 - a)) else m)) ≤ 1152921504606846976 := by
  rw [wi (x := 0 - a) (by omega) (by omega)]
  by_cases h2 : m < 0 - a
  · rw [if_pos h2]
    by_cases h3 : 0 - a < b
    · rw [if_pos h3]; omega
    · rw [if_neg h3]; omega
  · rw [if_neg h2]
    by_cases h3 : m < b
    · rw [if_pos h3]; omega
    · rw [if_neg h3]; omega
theorem grown_def (l : Bd × Bd × Bd) (h1 : InB l.1) (h2 : InB l.2.1) (h3 : InB l.2.2) : Def (sphere_grown l) := by
  unfold InB at h1 h2 h3
  rw [sphere_grown_eq, sphere_grown.p4_eq, sphere_grown.p4v1_eq, sphere_grown.p4v2_eq, sphere_grown.p4v3_eq]
  have k1 := up_most (m := 0) (a := l.1.1) (b := l.1.2.1) (by omega) (by omega) (by omega) (by omega) (by omega)
  generalize (if (if (0 : Int) < (IntKind.i64.wrap (0 - l.1.1)) then (IntKind.i64.wrap (0 - l.1.1)) else 0) < l.1.2.1 then l.1.2.1 else (if (0 : Int) < (IntKind.i64.wrap (0 - l.1.1)) then (IntKind.i64.wrap (0 - l.1.1)) else 0)) = m1 at k1 ⊢
  have k2 := up_most (m := m1) (a := l.2.1.1) (b := l.2.1.2.1) (by omega) (by omega) (by omega) (by omega) (by omega)
  generalize (if (if m1 < (IntKind.i64.wrap (0 - l.2.1.1)) then (IntKind.i64.wrap (0 - l.2.1.1)) else m1) < l.2.1.2.1 then l.2.1.2.1 else (if m1 < (IntKind.i64.wrap (0 - l.2.1.1)) then (IntKind.i64.wrap (0 - l.2.1.1)) else m1)) = m2 at k2 ⊢
  have k3 := up_most (m := m2) (a := l.2.2.1) (b := l.2.2.2.1) (by omega) (by omega) (by omega) (by omega) (by omega)
  generalize (if (if m2 < (IntKind.i64.wrap (0 - l.2.2.1)) then (IntKind.i64.wrap (0 - l.2.2.1)) else m2) < l.2.2.2.1 then l.2.2.2.1 else (if m2 < (IntKind.i64.wrap (0 - l.2.2.1)) then (IntKind.i64.wrap (0 - l.2.2.1)) else m2)) = m3 at k3 ⊢
  refine Def.ite (fun _ => .mk _) (fun hz => ?_)
  rw [eq_t] at hz
  exact grown_p12 m3 _ _ _ _ (by omega) k3.2 29 (by omega) (by show m3 * 1 ≤ _; omega)
/-! The angles. -/
theorem turned_p10 (t : List (Int × Int)) (ht : t.length < 1000) (b : Bd) : ∀ (u i : Nat) (f l : Int × Int), t.length - i = u → i ≤ t.length → Def (sphere_turned.p10 t (t.length : Int) (i : Int) b f l) := by
  intro u
  induction u with
  | zero =>
    intro i f l h1 h2
    rw [sphere_turned.p10_eq, if_neg (by rw [dt]; omega)]
    refine (atan2_def _ _).bind fun _ _ => (atan2_def _ _).bind fun _ _ => (pmod_def _ _).bind fun _ _ => (pmod_def _ _).bind fun _ _ => ?_
    obtain ⟨c, hc, _⟩ := ofArc _ _
    rw [hc]
    exact .mk _
  | succ u ih =>
    intro i f l h1 h2
    have p14 : ∀ f l p, Def (sphere_turned.p14 t (t.length : Int) (i : Int) b f l p) := by
      intro f l p
      rw [sphere_turned.p14_eq, sphere_turned_c1_eq, bind_some_, wi_nat (by omega)]
      exact Def.ite (fun _ => ih (i + 1) _ _ (by omega) (by omega)) (fun _ => ih (i + 1) _ _ (by omega) (by omega))
    rw [sphere_turned.p10_eq, if_pos (by rw [dt]; omega), if_pos (by omega), if_pos (by omega), sphere_turned_c1_eq, bind_some_]
    exact Def.ite (fun _ => p14 _ _ _) (fun _ => p14 _ _ _)
theorem turned_def (lo hi : T3) : Def (sphere_turned lo hi) := by
  rw [sphere_turned_eq, sphere_turned.p3_eq, if_pos (by decide), if_pos (by decide), if_pos (by simp), if_pos (by simp), show IntKind.i64.wrap (0 + 1) = 1 from by decide +kernel, sphere_turned.p3_eq, if_pos (by decide), if_pos (by decide), if_pos (by simp), if_pos (by simp), show IntKind.i64.wrap (1 + 1) = 2 from by decide +kernel, sphere_turned.p3_eq, if_neg (by decide), if_pos (by simp), if_pos (by simp)]
  exact turned_p10 _ (by simp) _ _ 0 _ _ rfl (by omega)
theorem far_def (lo hi : T3) : Def (sphere_far lo hi) := by
  have p2 : ∀ a b, Def (sphere_far.p3v2 a b lo hi) := by
    intro a b
    rw [sphere_far.p3v2_eq]
    exact (psqrt_def _).bind fun _ _ => Def.ite (fun _ => (psqrt_def _).bind fun _ _ => .mk _) (fun _ => (psqrt_def _).bind fun _ _ => .mk _)
  have p1 : ∀ a b, Def (sphere_far.p3v1 a b lo hi) := by
    intro a b
    rw [sphere_far.p3v1_eq]
    exact Def.ite (fun _ => p2 _ _) (fun _ => p2 _ _)
  rw [sphere_far_eq, sphere_far.p3_eq]
  exact Def.ite (fun _ => p1 _ _) (fun _ => p1 _ _)
theorem rangeC1_def (z : Int) (u : Bool) (a b : Int) : Def (sphere_Range_c1 z u a b) := by
  have p4 : ∀ d, Def (sphere_Range_c1.p4 z d) := by
    intro d
    rw [sphere_Range_c1.p4_eq]
    refine (atan2_def _ _).bind fun _ _ => Def.bind ?_ fun _ _ => .mk _
    rw [sphere_signed_eq]
    exact Def.ite (fun _ => .mk _) (fun _ => .mk _)
  rw [sphere_Range_c1_eq]
  exact Def.ite (fun _ => p4 _) (fun _ => p4 _)
theorem range_def (b : Bd × Bd × Bd) : Def (sphere_Range b) := by
  have p11 : ∀ x y l h r, Def (sphere_Range.p11 x y l h r) := by
    intro x y l h r
    rw [sphere_Range.p11_eq]
    refine (far_def _ _).bind fun _ _ => (rangeC1_def _ _ _ _).bind fun _ _ => (rangeC1_def _ _ _ _).bind fun _ _ => ?_
    obtain ⟨c, hc, _⟩ := ofArc _ _
    rw [hc]
    exact .mk _
  have p8 : ∀ x y l h r, Def (sphere_Range.p8 x y l h r) := by
    intro x y l h r
    rw [sphere_Range.p8_eq]
    exact (turned_def _ _).bind fun _ _ => p11 _ _ _ _ _
  obtain ⟨x, h1, h2, _⟩ := normCoord b.1
  obtain ⟨y, h3, h4, _⟩ := normCoord b.2.1
  obtain ⟨z, h5, h6, _⟩ := normCoord b.2.2
  rw [sphere_Range_eq, spyglass_bound_None_api_Arc_eq, bind_some_, h1, bind_some_, h3, bind_some_, h5, bind_some_]
  refine (grown_def _ h2 h4 h6).bind fun _ _ => ?_
  repeat' (refine Def.ite (fun _ => ?_) (fun _ => ?_))
  all_goals first | exact .mk _ | exact p8 _ _ _ _ _ | exact p11 _ _ _ _ _
/-! What boxes share. -/
theorem wcmp_def (a b : Int × Int) : Def (num_Wide_Cmp a b) := by
  rw [num_Wide_Cmp_eq, compare_i, compare_u, bind_some_, bind_some_, or_two]
  exact .mk _
theorem atMost_def (r : Int × Int × Int × Int) (a b : Int) : Def (change_ratios_atMost r a b) := by
  rw [change_ratios_atMost_eq]
  refine Def.ite (fun _ => .mk _) (fun _ => Def.ite (fun _ => ?_) (fun _ => ?_))
  · exact (product_def _ _).bind fun _ _ => (product_def _ _).bind fun _ _ => (wcmp_def _ _).bind fun _ _ => Def.ite (fun _ => .mk _) (fun _ => .mk _)
  · exact (product_def _ _).bind fun _ _ => (product_def _ _).bind fun _ _ => (wcmp_def _ _).bind fun _ _ => Def.ite (fun _ => .mk _) (fun _ => .mk _)
theorem checkC_def (b : Bd) : Def (spyglass_bound_Check_api_Coord b) := ⟨_, (checkCoord b).choose_spec.1⟩
theorem share_def (x y : Bd × Bd × Bd) : Def (change_Share x y) := by
  have p3 : ∀ r, Def (change_Share.p4v3 x y r) := by
    intro r
    rw [change_Share.p4v3_eq]
    exact Def.ite (fun _ => (product_def _ _).bind fun _ _ => (product_def _ _).bind fun _ _ => (wcmp_def _ _).bind fun _ _ => .mk _) (fun _ => .mk _)
  have step : ∀ (p q : Bd) (r : Int × Int × Int × Int) (f : Int × Int × Int × Int → Option Bool), (∀ r, Def (f r)) →
      Def ((spyglass_bound_Check_api_Coord p).bind fun e => if (e != 0) = false then ((spyglass_bound_Check_api_Coord q).bind fun e1 => if (e1 != 0) = false then (if p.2.2 = false then (if q.2.2 = true then (f r) else ((change_ratios_atMost r p.1 q.2.1).bind fun r2 => if (!r2.1) = false then ((change_ratios_atMost r2.2 (IntKind.i64.wrap (0 - p.2.1)) (IntKind.i64.wrap (0 - q.1))).bind fun r3 => if (!r3.1) = true then (some false) else (f r3.2)) else (some false))) else (f r)) else (f r)) else (f r)) := by
    intro p q r f hf
    refine (checkC_def _).bind fun _ _ => Def.ite (fun _ => (checkC_def _).bind fun _ _ => Def.ite (fun _ => Def.ite (fun _ => Def.ite (fun _ => hf _) (fun _ => ?_)) (fun _ => hf _)) (fun _ => hf _)) (fun _ => hf _)
    exact (atMost_def _ _ _).bind fun _ _ => Def.ite (fun _ => (atMost_def _ _ _).bind fun _ _ => Def.ite (fun _ => .mk _) (fun _ => hf _)) (fun _ => .mk _)
  have p2 : ∀ r, Def (change_Share.p4v2 x y r) := by
    intro r
    rw [change_Share.p4v2_eq]
    exact step x.2.2 y.2.2 r _ p3
  have p1 : ∀ r, Def (change_Share.p4v1 x y r) := by
    intro r
    rw [change_Share.p4v1_eq]
    exact step x.2.1 y.2.1 r _ p2
  rw [change_Share_eq, change_Share.p4_eq]
  exact step x.1 y.1 _ _ p1

end Go.Proofs.YtfnflhfdpbekeaaGreatDoor.Pure
