/- Aims. -/
import Derived.Test.YtionphbdphbpnaaEA0
import Derived.Test.YtionphbdphbpnaaEA1
import Derived.Test.YtionphbdphbpnaaEA2
import Derived.Test.YtionphbdphbpnaaEA3
import Derived.Test.YtionphbdphbpnaaPl
import Derived.Test.YtionphbdphbpnaaLemNum
import Derived.Test.YtionphbdphbpnaaLemDiv
import Derived.Test.YtionphbdphbpnaaLemNight
namespace Go.Proofs.Ytionphbdphbpnaa.Pure
set_option linter.unusedVariables false
set_option linter.unusedSimpArgs false
open Go Go.RowKit Go.Proofs.Ytionphbdphbpnaa.Pv Go.Proofs.Ytionphbdphbpnaa.Pl Go.Proofs.Ytionphbdphbpnaa.EA

theorem axes_ok : spylaw2_axes = some true := callL_some.2 ⟨400, by kernel_rfl⟩
/-! Aims are defined. -/
theorem sin_series : ∀ (l : List Int), (∀ k, k ∈ l → k ≠ 0) → l.length < 1000 → ∀ (u : Nat) (s : Int) (i : Nat) (x : Int), l.length - i = u → i ≤ l.length → Def (trig_series.p3 x s l l.length i) := by
  intro l hl hn u
  induction u with
  | zero =>
    intro s i x hu hi
    rw [trig_series.p3_eq, if_neg (by rw [dt]; omega)]
    exact .mk _
  | succ u ih =>
    intro s i x hu hi
    rw [trig_series.p3_eq, if_pos (by rw [dt]; omega), if_pos (by omega), if_pos (by omega), trig_times_eq]
    refine Def.bind ?_ fun r _ => ?_
    · exact (mulDiv_def _ _ _ (by omega)).bind fun _ _ => .mk _
    · have hi' : i < l.length := by omega
      rw [toNat_nat, getD_nat _ _ hi', wi_nat (by omega)]
      exact .no (hl _ (List.getElem_mem hi')) (ih _ (i + 1) x (by omega) (by omega))
theorem series_def (x : Int) (l : List Int) (h : ∀ k, k ∈ l → k ≠ 0) (hn : l.length < 1000) : Def (trig_series x l) := by
  rw [trig_series_eq]
  exact sin_series l h hn _ _ 0 x rfl (by omega)
theorem times_def (a b : Int) : Def (trig_times a b) := by
  rw [trig_times_eq]
  exact (mulDiv_def _ _ _ (by omega)).bind fun _ _ => .mk _
theorem quarter_def (t : Int) : Def (trig_quarter t) := by
  have p4 : ∀ (t : Int) (b : Bool), Def (trig_quarter.p4 t b) := by
    intro t b
    rw [trig_quarter.p4_eq]
    refine (mulDiv_def _ _ _ (by omega)).bind fun _ _ => (times_def _ _).bind fun _ _ => Def.ite (fun _ => ?_) (fun _ => ?_)
    · exact (series_def _ _ (by decide) (by decide)).bind fun _ _ => (roundDiv_def _ _).bind fun _ _ => .mk _
    · exact (series_def _ _ (by decide) (by decide)).bind fun _ _ => (times_def _ _).bind fun _ _ => (roundDiv_def _ _).bind fun _ _ => .mk _
  rw [trig_quarter_eq]
  exact Def.ite (fun _ => p4 _ _) (fun _ => p4 _ _)
theorem sin_def (a : Int) : Def (trig_Sin a) := by
  rw [trig_Sin_eq]
  repeat' (refine Def.ite (fun _ => ?_) (fun _ => ?_))
  all_goals exact (quarter_def _).bind fun _ _ => .mk _
theorem cos_def (a : Int) : Def (trig_Cos a) := by
  rw [trig_Cos_eq]
  exact (sin_def _).bind fun _ _ => .mk _
theorem octant_p2 (y x : Int) : ∀ (u : Nat) (lo hi : Int), 0 ≤ lo → lo < hi → hi ≤ 536870913 → hi - lo ≤ u → Def (trig_octant.p2 y x lo hi) := by
  intro u
  induction u with
  | zero => intro lo hi h0 h1 h2 h3; omega
  | succ u ih =>
    intro lo hi h0 h1 h2 h3
    rw [trig_octant.p2_eq, wi (x := hi - lo) (by omega) (by omega), wi (x := lo + hi) (by omega) (by omega), Int.tdiv_eq_ediv_of_nonneg (by omega), wi (x := (lo + hi) / 2) (by omega) (by omega)]
    refine Def.ite (fun h => ?_) (fun _ => .mk _)
    rw [dt] at h
    refine (sin_def _).bind fun _ _ => (cos_def _).bind fun _ _ => Def.ite (fun _ => ?_) (fun _ => ?_)
    · exact ih _ _ (by omega) (by omega) (by omega) (by omega)
    · exact ih _ _ (by omega) (by omega) (by omega) (by omega)
theorem octant_def (y x : Int) : Def (trig_octant y x) := by
  rw [trig_octant_eq]
  exact octant_p2 y x 536870913 _ _ (by omega) (by omega) (by omega) (by omega)
theorem atan_def (y x : Int) : Def (trig_Atan2 y x) := by
  have p10 : ∀ a, Def (trig_Atan2.p10 y x a) := by
    intro a
    rw [trig_Atan2.p10_eq]
    repeat' (refine Def.ite (fun _ => ?_) (fun _ => ?_))
    all_goals exact .mk _
  have p5 : Def (trig_Atan2.p5 y x) := by
    rw [trig_Atan2.p5_eq]
    exact Def.ite (fun _ => (octant_def _ _).bind fun _ _ => p10 _) (fun _ => (octant_def _ _).bind fun _ _ => p10 _)
  rw [trig_Atan2_eq]
  repeat' (refine Def.ite (fun _ => ?_) (fun _ => ?_))
  all_goals first | exact .mk _ | exact p5
theorem grow_p3 (b : Int × Int × Int) : ∀ (u : Nat) (v : Int × Int × Int), (-1048576 ≤ v.1 ∧ v.1 ≤ 1048576) → (-1048576 ≤ v.2.1 ∧ v.2.1 ≤ 1048576) → (-1048576 ≤ v.2.2 ∧ v.2.2 ≤ 1048576) → ¬ (v.1 = 0 ∧ v.2.1 = 0 ∧ v.2.2 = 0) → 3145728 - (v.1.natAbs + v.2.1.natAbs + v.2.2.natAbs) ≤ u → Def (sphere_Grow.p3 v b) := by
  intro u
  induction u with
  | zero =>
    intro v h1 h2 h3 h4 h5
    rw [sphere_Grow.p3_eq, wi (x := 2 * v.1) (by omega) (by omega), wi (x := 2 * v.2.1) (by omega) (by omega), wi (x := 2 * v.2.2) (by omega) (by omega)]
    refine (sphereCheck_def _).bind fun e he => Def.ite (fun _ => .mk _) (fun hq => ?_)
    have : e = 0 := by simpa using hq
    have hv := (sphereCheck_val he).1 this
    simp only at hv
    omega
  | succ u ih =>
    intro v h1 h2 h3 h4 h5
    rw [sphere_Grow.p3_eq, wi (x := 2 * v.1) (by omega) (by omega), wi (x := 2 * v.2.1) (by omega) (by omega), wi (x := 2 * v.2.2) (by omega) (by omega)]
    refine (sphereCheck_def _).bind fun e he => Def.ite (fun _ => .mk _) (fun hq => ?_)
    have : e = 0 := by simpa using hq
    have hv := (sphereCheck_val he).1 this
    simp only at hv
    exact ih _ hv.1 hv.2.1 hv.2.2.1 hv.2.2.2 (by simp only; omega)
theorem grow_def (v : Int × Int × Int) : Def (sphere_Grow v) := by
  rw [sphere_Grow_eq]
  refine (sphereCheck_def _).bind fun e he => Def.ite (fun _ => .mk _) (fun hq => ?_)
  have : e = 0 := by simpa using hq
  have hv := (sphereCheck_val he).1 this
  exact grow_p3 _ 3145728 v hv.1 hv.2.1 hv.2.2.1 hv.2.2.2 (by omega)
theorem site_def (s : Int × Int) : Def (horizon_CheckSite s) := by
  rw [horizon_CheckSite_eq]
  repeat' (refine Def.ite (fun _ => ?_) (fun _ => ?_))
  all_goals exact .mk _
theorem horizonAim_def (s : Int × Int) (t : Int) (v : Int × Int × Int) : Def (horizon_Aim s t v) := by
  have c1 : ∀ a, Def (horizon_Aim_c1 a) := fun a => by rw [horizon_Aim_c1_eq]; exact (cos_def _).bind fun _ _ => .mk _
  have c2 : ∀ a, Def (horizon_Aim_c1_1 a) := fun a => by rw [horizon_Aim_c1_1_eq]; exact (sin_def _).bind fun _ _ => .mk _
  have sq : ∀ a, Def (num_Sqrt a) := fun a => by rw [num_Sqrt_eq]; exact (sqrtMul_def _ _).bind fun _ _ => .mk _
  rw [horizon_Aim_eq]
  refine (site_def _).bind fun _ _ => (sphereCheck_def _).bind fun _ _ => ?_
  rw [or_errs, bind_some_]
  refine Def.ite (fun _ => .mk _) (fun _ => ?_)
  exact (grow_def _).bind fun _ _ => (c1 _).bind fun _ _ => (c2 _).bind fun _ _ => (roundDiv_def _ _).bind fun _ _ => (roundDiv_def _ _).bind fun _ _ => (c1 _).bind fun _ _ => (c2 _).bind fun _ _ => (roundDiv_def _ _).bind fun _ _ => (roundDiv_def _ _).bind fun _ _ => (atan_def _ _).bind fun _ _ => (sq _).bind fun _ _ => (atan_def _ _).bind fun _ _ => Def.ite (fun _ => .mk _) (fun _ => .mk _)
theorem angle_def {r : Int × Int × Int × Int} (t : Int) : Def (scale_Angle r t) := by
  rw [scale_Angle_eq]
  refine (rate_def r).bind fun e he => Def.ite (fun hq => ?_) (fun _ => .mk _)
  have : e = 0 := by simpa using hq
  subst this
  have h2 := fracCheck_ok (rate_ok he).1
  repeat' (refine Def.ite (fun _ => ?_) (fun _ => ?_))
  all_goals first | exact .mk _ | skip
  rw [scale_angle_eq]
  refine Def.bind ?_ fun _ _ => (mod_def _ _).bind fun _ _ => .mk _
  exact (mulDiv_def _ _ _ (by omega)).bind fun _ _ => .mk _

end Go.Proofs.Ytionphbdphbpnaa.Pure
