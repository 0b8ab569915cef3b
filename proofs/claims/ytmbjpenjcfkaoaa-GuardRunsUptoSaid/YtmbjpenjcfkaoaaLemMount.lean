/- States of mounts. -/
import Derived.Test.YtmbjpenjcfkaoaaEA0
import Derived.Test.YtmbjpenjcfkaoaaEA1
import Derived.Test.YtmbjpenjcfkaoaaEA2
import Derived.Test.YtmbjpenjcfkaoaaEA3
import Derived.Test.YtmbjpenjcfkaoaaEA4
import Derived.Test.YtmbjpenjcfkaoaaPl
import Derived.Test.YtmbjpenjcfkaoaaLemAxis
import Derived.Test.YtmbjpenjcfkaoaaLemAxisS
namespace Go.Proofs.Ytmbjpenjcfkaoaa.Pure
set_option linter.unusedVariables false
set_option linter.unusedSimpArgs false
open Go Go.RowKit Go.Proofs.Ytmbjpenjcfkaoaa.Pv Go.Proofs.Ytmbjpenjcfkaoaa.Pl Go.Proofs.Ytmbjpenjcfkaoaa.EA

/-! States of mounts. -/
abbrev MtS := AxS × AxS × Int
/-- Whether two axes stand as the mode says. -/
def modeOk (s : MtS) (k1 k2 : Int) : Bool :=
  let r1 := decide (s.1.2.1 = 0 ∧ s.1.1 = s.1.2.2.1) && !s.1.2.2.2
  let r2 := decide (s.2.1.2.1 = 0 ∧ s.2.1.1 = s.2.1.2.2.1) && !s.2.1.2.2.2
  if s.2.2 = 0 then r1 && r2 && decide (s.1.1 = k1) && decide (s.2.1.1 = k2)
  else if s.2.2 = 1 then r1 && r2
  else if s.2.2 = 5 then (s.1.2.2.2 || r1) && (s.2.1.2.2.2 || r2)
  else if s.2.2 = 4 then !s.1.2.2.2 && !s.2.1.2.2.2 && decide (s.1.2.2.1 = k1) && decide (s.2.1.2.2.1 = k2)
  else !s.1.2.2.2 && !s.2.1.2.2.2
def modeE (s : MtS) (k1 k2 : Int) : Int := if s.2.2 < 0 ∨ s.2.2 > 5 then 3 else if modeOk s k1 k2 = true then 0 else 10
theorem mode_prog (m : (Int × Int × Int × Int) × (Int × Int × Int × Int) × Int × Int) (s : MtS) : (if (decide (s.2.2 < 0)) = false then (if (decide (s.2.2 ≥ 6)) = true then (some 3) else (if (s.2.2 == 0) = true then ((mount_Rest m).bind fun r3 => if (!(((s.1.1 == r3.1.1) && ((s.1.2.1 == r3.1.2.1) && ((s.1.2.2.1 == r3.1.2.2.1) && (s.1.2.2.2 == r3.1.2.2.2)))) && (((s.2.1.1 == r3.2.1.1) && ((s.2.1.2.1 == r3.2.1.2.1) && ((s.2.1.2.2.1 == r3.2.1.2.2.1) && (s.2.1.2.2.2 == r3.2.1.2.2.2)))) && (s.2.2 == r3.2.2)))) = true then (some 10) else (some 0)) else (if (s.2.2 == 1) = true then ((axis_Resting s.1).bind fun r4 => if r4 = true then ((axis_Resting s.2.1).bind fun r5 => if (!r5) = true then (some 10) else (some 0)) else (some 10)) else (if (s.2.2 == 5) = true then (if s.1.2.2.2 = false then ((axis_Resting s.1).bind fun r6 => if r6 = true then (if s.2.1.2.2.2 = false then ((axis_Resting s.2.1).bind fun r7 => if (!r7) = true then (some 10) else (some 0)) else (some 0)) else (some 10)) else (if s.2.1.2.2.2 = false then ((axis_Resting s.2.1).bind fun r8 => if (!r8) = true then (some 10) else (some 0)) else (some 0))) else (if (!s.1.2.2.2) = true then (if (!s.2.1.2.2.2) = true then (if (s.2.2 != 4) = false then (if (s.1.2.2.1 == m.2.2.1) = true then (if (!(s.2.1.2.2.1 == m.2.2.2)) = true then (some 10) else (some 0)) else (some 10)) else (some 0)) else (some 10)) else (some 10)))))) else (some 3)) = some (modeE s m.2.2.1 m.2.2.2) := by
  obtain ⟨⟨p, v, g, h⟩, ⟨p', v', g', h'⟩, k⟩ := s
  obtain ⟨a, b, k1, k2⟩ := m
  simp only [(rest_eq p v g h).1, (rest_eq p' v' g' h').1, mount_Rest_eq, axis_Rest_eq, bind_some_, dt, df, eq_t, ne_t, ne_f]
  unfold modeE modeOk
  simp only []
  by_cases c0 : k < 0
  · rw [if_neg (by omega), if_pos (by omega)]
  · rw [if_pos c0]
    by_cases c6 : k ≥ 6
    · rw [if_pos c6, if_pos (by omega)]
    · rw [if_neg c6, if_neg (show ¬ (k < 0 ∨ k > 5) by omega)]
      by_cases e0 : k = 0
      · subst e0
        cases h <;> cases h' <;> by_cases q1 : v = 0 <;> by_cases q2 : v' = 0 <;> by_cases q3 : p = g <;> by_cases q4 : p' = g' <;> by_cases q5 : p = k1 <;> by_cases q6 : p' = k2 <;> simp_all <;> (try intro _) <;> omega
      · by_cases e1 : k = 1
        · subst e1
          cases h <;> cases h' <;> by_cases q1 : v = 0 <;> by_cases q2 : v' = 0 <;> by_cases q3 : p = g <;> by_cases q4 : p' = g' <;> simp_all
        · by_cases e5 : k = 5
          · subst e5
            cases h <;> cases h' <;> by_cases q1 : v = 0 <;> by_cases q2 : v' = 0 <;> by_cases q3 : p = g <;> by_cases q4 : p' = g' <;> simp_all
          · by_cases e4 : k = 4
            · subst e4
              cases h <;> cases h' <;> by_cases q1 : g = k1 <;> by_cases q2 : g' = k2 <;> simp_all
            · cases h <;> cases h' <;> simp_all
theorem mode_ref (m : (Int × Int × Int × Int) × (Int × Int × Int × Int) × Int × Int) (s : MtS) : ((spyref2_In s.2.2 0 5).bind fun r3 => if (!r3) = true then (some 3) else (if (s.2.2 == 0) = true then ((spyref2_Rests s.1).bind fun r4 => if r4 = true then ((spyref2_Rests s.2.1).bind fun r5 => if r5 = true then (if (s.1.1 == m.2.2.1) = true then (if (!(s.2.1.1 == m.2.2.2)) = true then (some 10) else (some 0)) else (some 10)) else (some 10)) else (some 10)) else (if (s.2.2 == 1) = true then ((spyref2_Rests s.1).bind fun r6 => if r6 = true then ((spyref2_Rests s.2.1).bind fun r7 => if (!r7) = true then (some 10) else (some 0)) else (some 10)) else (if (s.2.2 == 5) = true then (if s.1.2.2.2 = false then ((spyref2_Rests s.1).bind fun r8 => if r8 = true then (if s.2.1.2.2.2 = false then ((spyref2_Rests s.2.1).bind fun r9 => if (!r9) = true then (some 10) else (some 0)) else (some 0)) else (some 10)) else (if s.2.1.2.2.2 = false then ((spyref2_Rests s.2.1).bind fun r10 => if (!r10) = true then (some 10) else (some 0)) else (some 0))) else (if (s.2.2 == 4) = true then (if (!s.1.2.2.2) = true then (if (!s.2.1.2.2.2) = true then (if (s.1.2.2.1 == m.2.2.1) = true then (if (!(s.2.1.2.2.1 == m.2.2.2)) = true then (some 10) else (some 0)) else (some 10)) else (some 10)) else (some 10)) else (if (!s.1.2.2.2) = true then (if (!(!s.2.1.2.2.2)) = true then (some 10) else (some 0)) else (some 10))))))) = some (modeE s m.2.2.1 m.2.2.2) := by
  obtain ⟨⟨p, v, g, h⟩, ⟨p', v', g', h'⟩, k⟩ := s
  obtain ⟨a, b, k1, k2⟩ := m
  simp only [(rest_eq p v g h).2, (rest_eq p' v' g' h').2, spyref2_In_eq, bind_ite, bind_some_, dt, df, eq_t, ne_t, ne_f]
  unfold modeE modeOk
  simp only []
  by_cases c0 : k < 0
  · rw [if_neg (by omega), if_pos (by simp), if_pos (by omega)]
  · rw [if_pos (by omega)]
    by_cases c6 : k ≥ 6
    · rw [if_pos (by simp; omega), if_pos (by omega)]
    · rw [if_neg (by simp; omega), if_neg (show ¬ (k < 0 ∨ k > 5) by omega)]
      by_cases e0 : k = 0
      · subst e0
        cases h <;> cases h' <;> by_cases q1 : v = 0 <;> by_cases q2 : v' = 0 <;> by_cases q3 : p = g <;> by_cases q4 : p' = g' <;> by_cases q5 : p = k1 <;> by_cases q6 : p' = k2 <;> simp_all <;> (try intro _) <;> omega
      · by_cases e1 : k = 1
        · subst e1
          cases h <;> cases h' <;> by_cases q1 : v = 0 <;> by_cases q2 : v' = 0 <;> by_cases q3 : p = g <;> by_cases q4 : p' = g' <;> simp_all
        · by_cases e5 : k = 5
          · subst e5
            cases h <;> cases h' <;> by_cases q1 : v = 0 <;> by_cases q2 : v' = 0 <;> by_cases q3 : p = g <;> by_cases q4 : p' = g' <;> simp_all
          · by_cases e4 : k = 4
            · subst e4
              cases h <;> cases h' <;> by_cases q1 : g = k1 <;> by_cases q2 : g' = k2 <;> simp_all
            · cases h <;> cases h' <;> simp_all
theorem mfault_eq (m1 x1 s1 a1 m2 x2 s2 a2 k1 k2 : Int) : ∃ e, slew_CheckMount ((m1, x1, s1, a1), (m2, x2, s2, a2), k1, k2) = some e ∧ spyref2_MountFault ((m1, x1, s1, a1), (m2, x2, s2, a2), k1, k2) = some e ∧ (e = 0 → m1 ≤ k1 ∧ k1 ≤ x1 ∧ m2 ≤ k2 ∧ k2 ≤ x2) := by
  rw [slew_CheckMount_eq, spyref2_MountFault_eq, check_eq, fault_eq, bind_some_, bind_some_]
  simp only [ne_t]
  by_cases c : fault m1 x1 s1 a1 = 0
  · rw [if_neg (by omega), if_neg (by omega), check_eq, fault_eq, bind_some_, bind_some_]
    by_cases d : fault m2 x2 s2 a2 = 0
    · rw [if_neg (by omega), if_neg (by omega)]
      simp only [in_eq, within_eq, bind_some_, not_f, not_t, dt, df]
      by_cases k : m1 ≤ k1 ∧ k1 ≤ x1
      · by_cases l : m2 ≤ k2 ∧ k2 ≤ x2
        · exact ⟨0, by rw [if_pos k, if_neg (by omega)], by rw [if_pos k, if_neg (by omega)], fun _ => by omega⟩
        · exact ⟨4, by rw [if_pos k, if_pos l], by rw [if_pos k, if_pos l], fun _ => by omega⟩
      · exact ⟨4, by rw [if_neg k], by rw [if_neg k], fun _ => by omega⟩
    · exact ⟨_, by rw [if_pos d], by rw [if_pos d], fun q => absurd q d⟩
  · exact ⟨_, by rw [if_pos c], by rw [if_pos c], fun q => absurd q c⟩
theorem mount_same (m1 x1 s1 a1 m2 x2 s2 a2 k1 k2 p v g p' v' g' k : Int) (h h' : Bool) :
    ∃ e, mount_Check ((m1, x1, s1, a1), (m2, x2, s2, a2), k1, k2) ((p, v, g, h), (p', v', g', h'), k) = some e ∧ spyref2_MountStateFault ((m1, x1, s1, a1), (m2, x2, s2, a2), k1, k2) ((p, v, g, h), (p', v', g', h'), k) = some e ∧
      (e = 0 → fault m1 x1 s1 a1 = 0 ∧ StOk m1 x1 s1 a1 p v g ∧ axis_Check (m1, x1, s1, a1) (p, v, g, h) = some 0 ∧ fault m2 x2 s2 a2 = 0 ∧ StOk m2 x2 s2 a2 p' v' g' ∧ axis_Check (m2, x2, s2, a2) (p', v', g', h') = some 0 ∧ 0 ≤ k ∧ k ≤ 5 ∧ (m1 ≤ k1 ∧ k1 ≤ x1 ∧ m2 ≤ k2 ∧ k2 ≤ x2) ∧ modeOk ((p, v, g, h), (p', v', g', h'), k) k1 k2 = true) := by
  rw [mount_Check_eq, spyref2_MountStateFault_eq]
  obtain ⟨e, e1, e2, e3⟩ := mfault_eq m1 x1 s1 a1 m2 x2 s2 a2 k1 k2
  obtain ⟨f, f1, f2, f3, _⟩ := state_same m1 x1 s1 a1 p v g h
  obtain ⟨f', f1', f2', f3', _⟩ := state_same m2 x2 s2 a2 p' v' g' h'
  have mp := mode_prog ((m1, x1, s1, a1), (m2, x2, s2, a2), k1, k2) ((p, v, g, h), (p', v', g', h'), k)
  have mr := mode_ref ((m1, x1, s1, a1), (m2, x2, s2, a2), k1, k2) ((p, v, g, h), (p', v', g', h'), k)
  rw [e1, e2, bind_some_, bind_some_]
  by_cases c : e = 0
  · have n0 : ¬ ((e != 0) = true) := by rw [ne_t]; omega
    rw [if_neg n0, if_neg n0, f1, f2, bind_some_, bind_some_]
    by_cases d : f = 0
    · have n1 : ¬ ((f != 0) = true) := by rw [ne_t]; omega
      rw [if_neg n1, if_neg n1, f1', f2', bind_some_, bind_some_]
      by_cases d' : f' = 0
      · have n2 : ¬ ((f' != 0) = true) := by rw [ne_t]; omega
        rw [if_neg n2, if_neg n2, mp, mr]
        refine ⟨_, rfl, rfl, fun q => ?_⟩
        have a := f3 d
        have b := f3' d'
        subst d
        subst d'
        unfold modeE at q
        simp only [] at q
        by_cases z : k < 0 ∨ k > 5
        · rw [if_pos z] at q
          omega
        · rw [if_neg z] at q
          by_cases w : modeOk ((p, v, g, h), (p', v', g', h'), k) k1 k2 = true
          · exact ⟨a.1, a.2, rfl, b.1, b.2, rfl, by omega, by omega, e3 c, w⟩
          · rw [if_neg w] at q
            omega
      · exact ⟨f', by rw [if_pos (by rw [ne_t]; exact d')], by rw [if_pos (by rw [ne_t]; exact d')], fun q => absurd q d'⟩
    · exact ⟨f, by rw [if_pos (by rw [ne_t]; exact d)], by rw [if_pos (by rw [ne_t]; exact d)], fun q => absurd q d⟩
  · exact ⟨e, by rw [if_pos (by rw [ne_t]; exact c)], by rw [if_pos (by rw [ne_t]; exact c)], fun q => absurd q c⟩

end Go.Proofs.Ytmbjpenjcfkaoaa.Pure
