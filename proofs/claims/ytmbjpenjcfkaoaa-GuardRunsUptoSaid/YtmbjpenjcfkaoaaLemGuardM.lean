/- What the guard does to its devices. -/
import Derived.Test.YtmbjpenjcfkaoaaEA0
import Derived.Test.YtmbjpenjcfkaoaaEA1
import Derived.Test.YtmbjpenjcfkaoaaEA2
import Derived.Test.YtmbjpenjcfkaoaaEA3
import Derived.Test.YtmbjpenjcfkaoaaEA4
import Derived.Test.YtmbjpenjcfkaoaaPl
import Derived.Test.YtmbjpenjcfkaoaaLemAxis
import Derived.Test.YtmbjpenjcfkaoaaLemAxisS
import Derived.Test.YtmbjpenjcfkaoaaLemMount
import Derived.Test.YtmbjpenjcfkaoaaLemDome
import Derived.Test.YtmbjpenjcfkaoaaLemCam
import Derived.Test.YtmbjpenjcfkaoaaLemMoves
import Derived.Test.YtmbjpenjcfkaoaaLemGuard
namespace Go.Proofs.Ytmbjpenjcfkaoaa.Pure
set_option linter.unusedVariables false
set_option linter.unusedSimpArgs false
open Go Go.RowKit Go.Proofs.Ytmbjpenjcfkaoaa.Pv Go.Proofs.Ytmbjpenjcfkaoaa.Pl Go.Proofs.Ytmbjpenjcfkaoaa.EA

/-! What the guard does to its devices. -/
theorem chk_hlt (a : Ax) (p v g : Int) (h h' : Bool) : axis_Check a (p, v, g, h) = axis_Check a (p, v, g, h') := by
  rw [axis_Check_eq, axis_Check_eq]
theorem stop_mount (m : MtM) (s : MtS) (t : Int × Int) (hk : mount_Check m s = some 0) : ∃ r, mount_Stop m s = some (r, 0) ∧ spyref2_MountOrder m s 3 t = some (r, 0) ∧ mount_Check m r = some 0 := by
  obtain ⟨_, _, _, r, r1, r2⟩ := order_same m s t
  obtain ⟨⟨m1, x1, s1, a1⟩, ⟨m2, x2, s2, a2⟩, k1, k2⟩ := m
  obtain ⟨⟨p, v, g, h⟩, ⟨p', v', g', h'⟩, k⟩ := s
  obtain ⟨e, e1, e2, e3⟩ := mount_same m1 x1 s1 a1 m2 x2 s2 a2 k1 k2 p v g p' v' g' k h h'
  rw [hk] at e1
  injection e1 with e1
  obtain ⟨c1, o1, q1, c2, o2, q2, l0, l5, _⟩ := e3 e1.symm
  have hr := r1
  rw [mount_Stop_eq, hk, bind_some_, if_neg (by simp), axis_Brake_eq, axis_Brake_eq, q1, q2] at hr
  simp only [bind_some_, eq_t, ne_t, ne_eq, not_true_eq_false, if_false] at hr
  by_cases c : k = 0
  · rw [if_pos c] at hr
    cases hr
    exact ⟨_, r1, r2, hk⟩
  · rw [if_neg c] at hr
    cases hr
    refine ⟨_, r1, r2, ?_⟩
    obtain ⟨f, f1, _⟩ := mfault_eq m1 x1 s1 a1 m2 x2 s2 a2 k1 k2
    have f0 : f = 0 := by
      rw [mount_Check_eq, f1, bind_some_] at hk
      by_cases z : f = 0
      · exact z
      · rw [if_pos (by rw [ne_t]; exact z)] at hk
        cases hk
        rfl
    have n0 : ¬ (((0 : Int) != 0) = true) := by simp
    have mp := mode_prog ((m1, x1, s1, a1), (m2, x2, s2, a2), k1, k2) ((p, v, g, true), (p', v', g', true), 5)
    rw [mount_Check_eq, f1, f0, bind_some_, if_neg n0, chk_hlt _ p v g true h, q1, bind_some_, if_neg n0, chk_hlt _ p' v' g' true h', q2, bind_some_, if_neg n0]
    refine mp.trans ?_
    simp [modeE, modeOk]
theorem dchk (a b p v g : Int) (x y x' y' h h' : Bool) : dome_Check (a, b, x, y, p, v, g, h) = dome_Check (a, b, x', y', p, v, g, h') := by
  have e : ∀ r, axis_Check r (p, v, g, h) = axis_Check r (p, v, g, h') := fun r => chk_hlt r p v g h h'
  rw [dome_Check_eq, dome_Check_eq]
  simp only [dome_Check.p5_eq, e]
theorem brake_dome (s : DmS) (hk : dome_Check s = some 0) : dome_Brake s = some ((s.1, s.2.1, s.2.2.1, s.2.2.2.1, s.2.2.2.2.1, s.2.2.2.2.2.1, s.2.2.2.2.2.2.1, true), 0) ∧ dome_Check (s.1, s.2.1, s.2.2.1, s.2.2.2.1, s.2.2.2.2.1, s.2.2.2.2.2.1, s.2.2.2.2.2.2.1, true) = some 0 := by
  obtain ⟨a, b, x, y, p, v, g, h⟩ := s
  obtain ⟨e, e1, e2, e3⟩ := dome_same a b p v g x y h
  rw [hk] at e1
  injection e1 with e1
  obtain ⟨a0, a1, b0, b1, _, c1, o1, q1⟩ := e3 e1.symm
  refine ⟨?_, (dchk a b p v g x y x y true h).trans hk⟩
  rw [dome_Brake_eq, hk, bind_some_, if_neg (by simp), dome_Axis_eq, bind_some_, axis_Brake_eq]
  simp only []
  rw [q1]
  rfl
theorem set_dome (s : DmS) (x y : Bool) (hk : dome_Check s = some 0) : dome_Set s x y = some ((s.1, s.2.1, x, y, s.2.2.2.2), 0) ∧ dome_Check (s.1, s.2.1, x, y, s.2.2.2.2) = some 0 := by
  obtain ⟨a, b, x', y', p, v, g, h⟩ := s
  refine ⟨?_, (dchk a b p v g x y x' y' h h).trans hk⟩
  rw [dome_Set_eq, hk, bind_some_, if_neg (by simp)]
theorem cfault_0 {m l b n : Int} (h : cfault m l b n = 0) : 0 ≤ n ∧ n ≤ 1073741824 ∧ 0 ≤ m ∧ m ≤ 3 ∧ (m = 1 → 1 ≤ l ∧ l ≤ b) ∧ (m = 2 → 1 ≤ l ∧ l ≤ 3) ∧ b ≤ 16 := by
  unfold cfault at h
  split at h
  · split at h
    · rename_i h1 h2
      exact ⟨h1.2.2.1, h1.2.2.2.1, h1.1, h1.2.1, h2.2.1, h2.2.2.1, h1.2.2.2.2.2⟩
    · omega
  · omega
theorem abort_cam (c : Int × Int × Int × Int) (hk : camera_Check c = some 0) (h1 : c.1 = 1) : camera_Abort c = some ((0, 0, 0, c.2.2.2), 0) ∧ camera_Check (0, 0, 0, c.2.2.2) = some 0 := by
  obtain ⟨m, l, b, n⟩ := c
  have q := hk
  rw [cam_check] at q
  injection q with q
  obtain ⟨n0, n1, _⟩ := cfault_0 q
  refine ⟨?_, ?_⟩
  · rw [camera_Abort_eq, hk, bind_some_, if_neg (by simp), if_neg (by rw [ne_t]; exact fun q => q h1)]
  · rw [cam_check]
    exact (cf0 (by simp; omega) (by simp)).symm
theorem step_cam (c : Int × Int × Int × Int) (hk : camera_Check c = some 0) : ∃ r, camera_Step c = some r ∧ spyref2_CameraStep c = some r := by
  obtain ⟨m, l, b, n⟩ := c
  rw [camera_Step_eq, hk, bind_some_, if_neg (by simp), spyref2_CameraStep_eq, spyref2_CameraStep.p3_eq]
  simp only [ne_t, eq_t]
  generalize IntKind.i64.wrap (l - 1) = t
  by_cases c1 : m = 1
  · by_cases c2 : t = 0
    · exact ⟨_, by rw [if_pos c1, if_pos c2], by simp [c1, c2]⟩
    · exact ⟨_, by rw [if_pos c1, if_neg c2], by simp [c1, c2]⟩
  · by_cases c3 : m = 2
    · by_cases c2 : t = 0
      · exact ⟨_, by rw [if_neg c1, if_pos c3, if_pos c2], by simp [c3, c2]⟩
      · exact ⟨_, by rw [if_neg c1, if_pos c3, if_neg c2], by simp [c3, c2]⟩
    · exact ⟨_, by rw [if_neg c1, if_neg c3], by simp [c1, c3]⟩
theorem step_mount (m : MtM) (s : MtS) (hk : mount_Check m s = some 0) : ∃ r, mount_Step m s = some r ∧ spyref2_MountStep m s = some r := by
  obtain ⟨⟨m1, x1, s1, a1⟩, ⟨m2, x2, s2, a2⟩, k1, k2⟩ := m
  obtain ⟨⟨p, v, g, h⟩, ⟨p', v', g', h'⟩, k⟩ := s
  exact mount_step m1 x1 s1 a1 m2 x2 s2 a2 k1 k2 p v g p' v' g' k h h' hk
theorem step_dome (s : DmS) (hk : dome_Check s = some 0) : ∃ r, dome_Step s = some r ∧ spyref2_DomeStep s = some r := by
  obtain ⟨a, b, x, y, p, v, g, h⟩ := s
  exact dome_step a b p v g x y h hk
/-- Each device of a world is valid. -/
structure Devs (m : MtM) (w : WD) : Prop where
  mt : mount_Check m w.1 = some 0
  dm : dome_Check w.2.1 = some 0
  cm : camera_Check w.2.2.1 = some 0
theorem lock_same (m : MtM) (w : WD) (h : Devs m w) : ∃ r, guard_lock m w = some r ∧ spyref2_halted m w = some r ∧ Devs m r := by
  obtain ⟨r, r1, r2, r3⟩ := stop_mount m w.1 (0, 0) h.mt
  obtain ⟨b1, b2⟩ := brake_dome w.2.1 h.dm
  rw [guard_lock_eq, spyref2_halted_eq, r2]
  simp only [guard_lock.p3_eq, eq_t, bind_some_]
  by_cases c : w.2.2.1.1 = 1
  · obtain ⟨a1, a2⟩ := abort_cam w.2.2.1 h.cm c
    rw [if_pos c, if_pos c, a1]
    simp only [bind_some_, r1, b1]
    exact ⟨_, rfl, rfl, ⟨r3, b2, a2⟩⟩
  · rw [if_neg c, if_neg c, r1]
    simp only [bind_some_, b1]
    exact ⟨_, rfl, rfl, ⟨r3, b2, h.cm⟩⟩
theorem begin_same (m : MtM) (w : WD) (h : Devs m w) : ∃ r, guard_begin m w = some r ∧ spyref2_stopped m w = some r ∧ Devs m r := by
  obtain ⟨r, r1, r2, r3⟩ := stop_mount m w.1 (0, 0) h.mt
  obtain ⟨d1, d2⟩ := set_dome w.2.1 false false h.dm
  obtain ⟨b1, b2⟩ := brake_dome _ d2
  simp only [] at b1 b2
  rw [guard_begin_eq, spyref2_stopped_eq, spyref2_halted_eq]
  simp only [guard_begin.p4_eq, eq_t, bind_id, r2, bind_some_]
  by_cases c : w.2.2.1.1 = 1
  · obtain ⟨a1, a2⟩ := abort_cam w.2.2.1 h.cm c
    rw [if_pos c, if_pos c, a1]
    simp only [bind_some_, r1, d1, b1]
    exact ⟨_, rfl, rfl, ⟨r3, b2, a2⟩⟩
  · rw [if_neg c, if_neg c, r1]
    simp only [bind_some_, d1, b1]
    exact ⟨_, rfl, rfl, ⟨r3, b2, h.cm⟩⟩

end Go.Proofs.Ytmbjpenjcfkaoaa.Pure
