/- Worlds of the guard. -/
import Derived.Test.YtmbjpenjcfkaoaaEA0
import Derived.Test.YtmbjpenjcfkaoaaEA1
import Derived.Test.YtmbjpenjcfkaoaaEA2
import Derived.Test.YtmbjpenjcfkaoaaEA3
import Derived.Test.YtmbjpenjcfkaoaaEA4
import Derived.Test.YtmbjpenjcfkaoaaPl
import Derived.Test.YtmbjpenjcfkaoaaLemAxis
import Derived.Test.YtmbjpenjcfkaoaaLemAxisS
import Derived.Test.YtmbjpenjcfkaoaaLemMount
import Derived.Test.YtmbjpenjcfkaoaaLemDome
import Derived.Test.YtmbjpenjcfkaoaaLemCam
import Derived.Test.YtmbjpenjcfkaoaaLemMoves
namespace Go.Proofs.Ytmbjpenjcfkaoaa.Pure
set_option linter.unusedVariables false
set_option linter.unusedSimpArgs false
open Go Go.RowKit Go.Proofs.Ytmbjpenjcfkaoaa.Pv Go.Proofs.Ytmbjpenjcfkaoaa.Pl Go.Proofs.Ytmbjpenjcfkaoaa.EA

/-! Worlds of the guard. -/
abbrev WD := MtS × DmS × (Int × Int × Int × Int) × (Bool × Bool × Bool × Bool × Bool) × (Int × Int) × Int × Int × Int
theorem hazard_same (s : Bool × Bool × Bool × Bool × Bool) : ∃ b, guard_Sensors_Hazard s = some b ∧ spyref2_Danger s = some b := by
  rw [guard_Sensors_Hazard_eq, spyref2_Danger_eq]
  obtain ⟨s1, s2, s3, s4, s5⟩ := s
  cases s1 <;> cases s2 <;> cases s3 <;> exact ⟨_, rfl, rfl⟩
theorem or01 : IntKind.i64.wrap (bitop .or .i64 0 1) = 1 := by decide +kernel
theorem or02 : IntKind.i64.wrap (bitop .or .i64 0 2) = 2 := by decide +kernel
theorem or12 : IntKind.i64.wrap (bitop .or .i64 1 2) = 3 := by decide +kernel
theorem hard4 (o : Int) (ho : o = 0 ∨ o = 1) (w : WD) : ∃ b, guard_Hard.p4 o w = some b ∧ spyref2_Broken.p4 o w = some b := by
  rw [guard_Hard.p4_eq, spyref2_Broken.p4_eq]
  have e : IntKind.i64.wrap (bitop .or .i64 o 2) = IntKind.i64.wrap (o + 2) := by
    rcases ho with rfl | rfl
    · rw [or02, wi (by omega) (by omega)]
      rfl
    · rw [or12, wi (by omega) (by omega)]
      rfl
  rw [e]
  generalize IntKind.i64.wrap (o + 2) = t
  simp only [eq_t, ne_f, ne_t, not_t, eq_f]
  by_cases c1 : w.2.2.1.1 = 1
  · by_cases c2 : w.1.2.2 = 3
    · by_cases c3 : w.2.1.1 = 100
      · by_cases c4 : w.2.1.2.1 = 20
        · exact ⟨o, by simp [c1, c2, c3, c4], by simp [c1, c2, c3, c4]⟩
        · exact ⟨t, by simp [c1, c2, c3, c4], by simp [c1, c2, c3, c4]⟩
      · exact ⟨t, by simp [c1, c2, c3], by simp [c1, c2, c3]⟩
    · exact ⟨t, by simp [c1, c2], by simp [c1, c2]⟩
  · exact ⟨o, by simp [c1], by simp [c1]⟩
theorem hard_same (w : WD) : ∃ b, guard_Hard w = some b ∧ spyref2_Broken w = some b := by
  rw [guard_Hard_eq, spyref2_Broken_eq, or01]
  simp only [dt]
  by_cases c1 : w.2.1.2.1 > 0
  · by_cases c2 : w.2.1.1 < 100
    · simp only [if_pos c1, if_pos c2]
      exact hard4 1 (.inr rfl) w
    · simp only [if_pos c1, if_neg c2]
      exact hard4 0 (.inl rfl) w
  · simp only [if_neg c1]
    exact hard4 0 (.inl rfl) w
theorem rest_same (w : WD) : ∃ b, guard_AtRest w = some b ∧ spyref2_Quiet w = some b := by
  rw [guard_AtRest_eq, spyref2_Quiet_eq, mount_Moving_eq, dome_Closed_eq]
  simp only [eq_t, ne_f, ne_t, not_t]
  by_cases c1 : w.1.1.2.1 = 0
  · by_cases c2 : w.1.2.1.2.1 = 0
    · by_cases c3 : w.2.1.2.2.2.2.2.1 = 0
      · by_cases c4 : w.2.2.1.1 = 1
        · exact ⟨false, by simp [c1, c2, c3, c4], by simp [c1, c2, c3, c4]⟩
        · by_cases c5 : w.2.1.1 = 0
          · exact ⟨w.2.1.2.1 == 0, by simp [c1, c2, c3, c4, c5], by simp [c1, c2, c3, c4, c5]⟩
          · exact ⟨false, by simp [c1, c2, c3, c4, c5], by simp [c1, c2, c3, c4, c5]⟩
      · exact ⟨false, by simp [c1, c2, c3], by simp [c1, c2, c3]⟩
    · exact ⟨false, by simp [c1, c2], by simp [c1, c2]⟩
  · exact ⟨false, by simp [c1], by simp [c1]⟩
/-- Whether nothing opens, exposes, or sets out. -/
def stopB (w : WD) : Bool := decide (w.1.2.2 = 0 ∨ w.1.2.2 = 1 ∨ w.1.2.2 = 5) && (w.2.1.2.2.2.2.2.2.2 || (decide (w.2.1.2.2.2.2.2.1 = 0 ∧ w.2.1.2.2.2.2.1 = w.2.1.2.2.2.2.2.2.1) && !w.2.1.2.2.2.2.2.2.2)) && !w.2.1.2.2.1 && !w.2.1.2.2.2.1 && decide (w.2.2.1.1 ≠ 1)
theorem stops_eq (w : WD) : guard_stops w = some (stopB w) := by
  obtain ⟨⟨x1, x2, mm⟩, ⟨a, b, s3, s4, p, v, g, h⟩, ⟨cm, c2, c3, c4⟩, s, aim, mode, hz, ky⟩ := w
  have key : ∀ z : Bool, guard_stops.p2 z ((x1, x2, mm), (a, b, s3, s4, p, v, g, h), (cm, c2, c3, c4), s, aim, mode, hz, ky) = some (z && (h || (decide (v = 0 ∧ p = g) && !h)) && !s3 && !s4 && decide (cm ≠ 1)) := by
    intro z
    rw [guard_stops.p2_eq]
    simp only [(rest_eq p v g h).1, bind_some_]
    generalize decide (v = 0 ∧ p = g) = r
    by_cases c : cm = 1
    · cases z <;> cases h <;> cases s3 <;> cases s4 <;> cases r <;> simp [c]
    · cases z <;> cases h <;> cases s3 <;> cases s4 <;> cases r <;> simp [c]
  rw [guard_stops_eq]
  simp only [eq_f]
  unfold stopB
  simp only []
  by_cases k0 : mm = 0
  · rw [if_neg (fun q => q k0), key]
    simp [k0]
  · rw [if_pos k0]
    by_cases k1 : mm = 1
    · rw [if_neg (fun q => q k1), key]
      simp [k1]
    · rw [if_pos k1, key]
      by_cases k5 : mm = 5
      · simp [k5]
      · simp [k0, k1, k5]
theorem wp16_same (w : WD) (h0 : 0 ≤ w.2.2.2.2.2.1) (h1 : 0 ≤ w.1.2.2) : ∃ e, guard_Check.p16 w = some e ∧ spyref2_WorldFault.p16 w = some e ∧ (e = 0 → (w.2.2.2.2.2.1 ≠ 0 → stopB w = true) ∧ (w.2.2.1.1 = 1 → w.2.1.2.2.1 = true ∧ w.2.1.2.2.2.1 = true)) := by
  obtain ⟨q, q1, q2⟩ := rest_same w
  rw [guard_Check.p16_eq, spyref2_WorldFault.p16_eq, spyref2_WorldFault.p18_eq, q1, q2, stops_eq]
  simp only [bind_some_, eq_t, ne_t, dt, df, not_f, not_t]
  obtain ⟨⟨x1, x2, mm⟩, ⟨a, b, s3, s4, p, v, g, h⟩, ⟨cm, c2, c3, c4⟩, s, aim, mode, hz, ky⟩ := w
  simp only [(rest_eq p v g h).2, bind_some_]
  unfold stopB
  simp only [] at h0 h1 ⊢
  generalize decide (v = 0 ∧ p = g) = r
  by_cases m0 : mode = 0
  · subst m0
    by_cases c : cm = 1
    · subst c
      cases s3 <;> cases s4 <;> simp
    · simp [c]
  · have mp : mode > 0 := by omega
    cases q with
    | false =>
      by_cases m2 : mode = 2
      · simp [m2]
      · by_cases c : cm = 1
        · simp [m0, m2, c, mp]
        · by_cases k0 : mm = 0
          · cases s3 <;> cases s4 <;> cases h <;> cases r <;> simp [m0, m2, c, mp, k0]
          · by_cases k1 : mm = 1
            · cases s3 <;> cases s4 <;> cases h <;> cases r <;> simp [m0, m2, c, mp, k1]
            · have k2 : mm > 1 := by omega
              by_cases k5 : mm = 5
              · cases s3 <;> cases s4 <;> cases h <;> cases r <;> simp [m0, m2, c, mp, k5]
              · cases s3 <;> cases s4 <;> cases h <;> cases r <;> simp [m0, m2, c, mp, k0, k1, k2, k5]
    | true =>
      by_cases c : cm = 1
      · by_cases m2 : mode = 2
        · simp [m2, c]
        · simp [m0, m2, c, mp]
      · by_cases k0 : mm = 0
        · cases s3 <;> cases s4 <;> cases h <;> cases r <;> simp [m0, c, mp, k0]
        · by_cases k1 : mm = 1
          · cases s3 <;> cases s4 <;> cases h <;> cases r <;> simp [m0, c, mp, k1]
          · have k2 : mm > 1 := by omega
            by_cases k5 : mm = 5
            · cases s3 <;> cases s4 <;> cases h <;> cases r <;> simp [m0, c, mp, k5]
            · cases s3 <;> cases s4 <;> cases h <;> cases r <;> simp [m0, c, mp, k0, k1, k2, k5]
theorem bnd_prog (mode hz ky : Int) (X : Option Int) : (if (decide (mode < 0)) = false then (if (decide (mode ≥ 3)) = false then (if (decide (hz < 0)) = false then (if (decide (ky < 0)) = false then (if (decide (hz > 17592186044416)) = false then (if (decide (ky > 17592186044416)) = true then (some 4) else X) else (some 4)) else (some 4)) else (some 4)) else (some 4)) else (some 4)) = if 0 ≤ mode ∧ mode ≤ 2 ∧ 0 ≤ hz ∧ hz ≤ 17592186044416 ∧ 0 ≤ ky ∧ ky ≤ 17592186044416 then X else some 4 := by
  simp only [dt, df]
  repeat' (refine ite_eq (fun _ => ?_) (fun _ => ?_))
  all_goals first | rw [if_pos (by omega)] | rw [if_neg (by omega)]
theorem bnd_ref (mode hz ky : Int) (X : Option Int) : ((spyref2_In mode 0 2).bind fun r3 => if (!r3) = false then ((spyref2_In hz 0 17592186044416).bind fun r4 => if (!r4) = false then ((spyref2_In ky 0 17592186044416).bind fun r5 => if (!r5) = true then (some 4) else X) else (some 4)) else (some 4)) = if 0 ≤ mode ∧ mode ≤ 2 ∧ 0 ≤ hz ∧ hz ≤ 17592186044416 ∧ 0 ≤ ky ∧ ky ≤ 17592186044416 then X else some 4 := by
  simp only [spyref2_In_eq, bind_ite, bind_some_, dt, df, not_f, not_t, Bool.false_eq_true, decide_eq_true_eq, decide_eq_false_iff_not, if_true, if_false]
  repeat' (refine ite_eq (fun _ => ?_) (fun _ => ?_))
  all_goals first | rw [if_pos (by omega)] | rw [if_neg (by omega)] | omega
/-- A world that Check accepts. -/
structure WOk (m : MtM) (w : WD) : Prop where
  mt : mount_Check m w.1 = some 0
  dm : dome_Check w.2.1 = some 0
  cm : camera_Check w.2.2.1 = some 0
  bd : 0 ≤ w.2.2.2.2.2.1 ∧ w.2.2.2.2.2.1 ≤ 2 ∧ 0 ≤ w.2.2.2.2.2.2.1 ∧ w.2.2.2.2.2.2.1 ≤ 17592186044416 ∧ 0 ≤ w.2.2.2.2.2.2.2 ∧ w.2.2.2.2.2.2.2 ≤ 17592186044416
  hd : guard_Hard w = some 0
  hz : guard_Sensors_Hazard w.2.2.2.1 = some (decide (w.2.2.2.2.2.2.1 > 0))
  ky : decide (w.2.2.2.2.2.2.2 > 0) = w.2.2.2.1.2.2.2.2
  rn : w.2.2.2.2.2.1 = 0 → w.2.2.2.2.2.2.1 = 0
  st : w.2.2.2.2.2.1 ≠ 0 → stopB w = true
  ex : w.2.2.1.1 = 1 → w.2.1.2.2.1 = true ∧ w.2.1.2.2.2.1 = true
theorem mount_same' (m : MtM) (s : MtS) : ∃ e, mount_Check m s = some e ∧ spyref2_MountStateFault m s = some e ∧ (e = 0 → 0 ≤ s.2.2 ∧ s.2.2 ≤ 5) := by
  obtain ⟨⟨m1, x1, s1, a1⟩, ⟨m2, x2, s2, a2⟩, k1, k2⟩ := m
  obtain ⟨⟨p, v, g, h⟩, ⟨p', v', g', h'⟩, k⟩ := s
  obtain ⟨e, e1, e2, e3⟩ := mount_same m1 x1 s1 a1 m2 x2 s2 a2 k1 k2 p v g p' v' g' k h h'
  exact ⟨e, e1, e2, fun q => ⟨(e3 q).2.2.2.2.2.2.1, (e3 q).2.2.2.2.2.2.2.1⟩⟩
theorem dome_same' (s : DmS) : ∃ e, dome_Check s = some e ∧ spyref2_DomeFault s = some e := by
  obtain ⟨a, b, s3, s4, p, v, g, h⟩ := s
  obtain ⟨e, e1, e2, _⟩ := dome_same a b p v g s3 s4 h
  exact ⟨e, e1, e2⟩
theorem cam_same' (s : Int × Int × Int × Int) : ∃ e, camera_Check s = some e ∧ spyref2_CameraFault s = some e := by
  obtain ⟨a, b, c, d⟩ := s
  exact ⟨_, cam_check a b c d, cam_fault a b c d⟩
theorem world_same (m : MtM) (w : WD) : ∃ e, guard_Check m w = some e ∧ spyref2_WorldFault m w = some e ∧ (e = 0 → WOk m w) := by
  obtain ⟨e, e1, e2, e3⟩ := mount_same' m w.1
  obtain ⟨f, f1, f2⟩ := dome_same' w.2.1
  obtain ⟨c, c1, c2⟩ := cam_same' w.2.2.1
  obtain ⟨hd, hd1, hd2⟩ := hard_same w
  obtain ⟨hz, hz1, hz2⟩ := hazard_same w.2.2.2.1
  rw [guard_Check_eq, spyref2_WorldFault_eq, e1, e2, bind_some_, bind_some_]
  by_cases ke : e = 0
  · have ne : ¬ ((e != 0) = true) := by rw [ne_t]; omega
    rw [if_neg ne, if_neg ne, f1, f2, bind_some_, bind_some_]
    by_cases kf : f = 0
    · have nf : ¬ ((f != 0) = true) := by rw [ne_t]; omega
      rw [if_neg nf, if_neg nf, c1, c2, bind_some_, bind_some_]
      by_cases kc : c = 0
      · have nc : ¬ ((c != 0) = true) := by rw [ne_t]; omega
        rw [if_neg nc, if_neg nc, bnd_prog, bnd_ref]
        by_cases kb : 0 ≤ w.2.2.2.2.2.1 ∧ w.2.2.2.2.2.1 ≤ 2 ∧ 0 ≤ w.2.2.2.2.2.2.1 ∧ w.2.2.2.2.2.2.1 ≤ 17592186044416 ∧ 0 ≤ w.2.2.2.2.2.2.2 ∧ w.2.2.2.2.2.2.2 ≤ 17592186044416
        · rw [if_pos kb, if_pos kb, hd1, hd2, bind_some_, bind_some_]
          by_cases kh : hd = 0
          · have nh : ¬ ((hd != 0) = true) := by rw [ne_t]; omega
            rw [if_neg nh, if_neg nh, hz1, hz2, bind_some_, bind_some_]
            obtain ⟨z, z1, z2, z3⟩ := wp16_same w kb.1 (e3 ke).1
            rw [z1, z2]
            by_cases k1 : hz = decide (w.2.2.2.2.2.2.1 > 0)
            · have n1 : (!((decide (w.2.2.2.2.2.2.1 > 0)) == hz)) = false := by rw [k1]; simp
              rw [if_pos n1, if_pos n1]
              by_cases k2 : decide (w.2.2.2.2.2.2.2 > 0) = w.2.2.2.1.2.2.2.2
              · have n2 : (!((decide (w.2.2.2.2.2.2.2 > 0)) == w.2.2.2.1.2.2.2.2)) = false := by rw [k2]; simp
                rw [if_pos n2, if_pos n2]
                by_cases k3 : w.2.2.2.2.2.1 = 0 ∧ w.2.2.2.2.2.2.1 > 0
                · exact ⟨10, by simp [k3.1, k3.2], by simp [k3.1, k3.2], fun q => by omega⟩
                · refine ⟨z, ?_, ?_, fun q => ⟨by rw [e1, ke], by rw [f1, kf], by rw [c1, kc], kb, by rw [hd1, kh], by rw [hz1, k1], k2, fun h => by omega, (z3 q).1, (z3 q).2⟩⟩
                  · by_cases k4 : w.2.2.2.2.2.1 = 0
                    · have : ¬ w.2.2.2.2.2.2.1 > 0 := fun h => k3 ⟨k4, h⟩
                      simp [k4, this]
                    · simp [k4]
                  · by_cases k4 : w.2.2.2.2.2.1 = 0
                    · have : ¬ w.2.2.2.2.2.2.1 > 0 := fun h => k3 ⟨k4, h⟩
                      simp [k4, this]
                    · simp [k4]
              · have n2 : ¬ (!((decide (w.2.2.2.2.2.2.2 > 0)) == w.2.2.2.1.2.2.2.2)) = false := by simpa using k2
                exact ⟨10, by rw [if_neg n2], by rw [if_neg n2], fun q => by omega⟩
            · have n1 : ¬ (!((decide (w.2.2.2.2.2.2.1 > 0)) == hz)) = false := by
                intro q
                exact k1 (by simpa using q : decide (w.2.2.2.2.2.2.1 > 0) = hz).symm
              exact ⟨10, by rw [if_neg n1], by rw [if_neg n1], fun q => by omega⟩
          · have nh : (hd != 0) = true := by rw [ne_t]; exact kh
            exact ⟨16, by rw [if_pos nh], by rw [if_pos nh], fun q => by omega⟩
        · exact ⟨4, by rw [if_neg kb], by rw [if_neg kb], fun q => by omega⟩
      · have nc : (c != 0) = true := by rw [ne_t]; exact kc
        exact ⟨c, by rw [if_pos nc], by rw [if_pos nc], fun q => absurd q kc⟩
    · have nf : (f != 0) = true := by rw [ne_t]; exact kf
      exact ⟨f, by rw [if_pos nf], by rw [if_pos nf], fun q => absurd q kf⟩
  · have ne : (e != 0) = true := by rw [ne_t]; exact ke
    exact ⟨e, by rw [if_pos ne], by rw [if_pos ne], fun q => absurd q ke⟩

end Go.Proofs.Ytmbjpenjcfkaoaa.Pure
