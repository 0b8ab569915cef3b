/- SlewChecks: the pure statement, proved. -/
import Derived.Test.YtchmfnmnijhjfaaStSlewChecks
import Derived.Test.YtchmfnmnijhjfaaFSlewChecks
import Derived.Test.YtchmfnmnijhjfaaPl
namespace Go.Proofs.Ytchmfnmnijhjfaa.Pure
set_option linter.unusedVariables false
set_option linter.unusedSimpArgs false
open Go.RowKit Go.Proofs.Ytchmfnmnijhjfaa.PSlewChecks Go.Proofs.Ytchmfnmnijhjfaa.FSlewChecks Go.Proofs.Ytchmfnmnijhjfaa.StSlewChecks Go.Proofs.YtchmfnmnijhjfaaW.PrintWords Go.Proofs.YtchmfnmnijhjfaaW.PrintLast Go.Proofs.YtchmfnmnijhjfaaW.PrintMore Go.Proofs.Ytchmfnmnijhjfaa.Lim Go.Proofs.Ytchmfnmnijhjfaa.Pl

/-! Axes: what is wrong with one; how fast one may go. -/
def fault (mn mx sp ac : Int) : Int :=
  if mn < -17179869184 ∨ mx > 17179869184 then 4 else if mn > mx then 11 else if sp < 16777216 ∨ sp > 1073741824 ∨ ac > sp ∨ ac < 1 ∨ ac * 64 < sp then 4 else 0
structure AxOk (mn mx sp ac : Int) : Prop where
  lo : -17179869184 ≤ mn
  hi : mx ≤ 17179869184
  le : mn ≤ mx
  s0 : 16777216 ≤ sp
  s1 : sp ≤ 1073741824
  a0 : 1 ≤ ac
  a1 : ac ≤ sp
  a2 : sp ≤ 64 * ac
theorem fault_ok {mn mx sp ac : Int} (h : fault mn mx sp ac = 0) : AxOk mn mx sp ac := by
  unfold fault at h
  split at h
  · cases h
  · split at h
    · cases h
    · split at h
      · cases h
      · exact ⟨by omega, by omega, by omega, by omega, by omega, by omega, by omega, by omega⟩
theorem check_eq (mn mx sp ac : Int) : slew_CheckAxis.F mn mx sp ac = some (fault mn mx sp ac) := by
  rw [slew_CheckAxis.F_eq]
  unfold fault
  by_cases c1 : mn < -17179869184
  · rw [if_pos c1, slew_CheckAxis.J0_eq, if_pos rfl, if_pos (Or.inl c1)]
  · rw [if_neg c1, slew_CheckAxis.J0_eq]
    by_cases c2 : mx > 17179869184
    · rw [if_pos (decide_eq_true c2), if_pos (Or.inr c2)]
    · have n1 : ¬ (mn < -17179869184 ∨ mx > 17179869184) := by omega
      rw [if_neg (by simpa using c2), if_neg n1]
      by_cases c3 : mn > mx
      · simp only [if_pos c3]
      · simp only [if_neg c3]
        by_cases c4 : sp < 16777216
        · rw [if_pos c4, if_pos (Or.inl c4)]
        · rw [if_neg c4]
          by_cases c5 : sp > 1073741824
          · rw [if_pos c5, if_pos (Or.inr (Or.inl c5))]
          · rw [if_neg c5]
            by_cases c6 : ac > sp
            · rw [if_pos c6, if_pos (Or.inr (Or.inr (Or.inl c6)))]
            · rw [if_neg c6]
              by_cases c7 : ac < 1
              · rw [if_pos c7, if_pos (Or.inr (Or.inr (Or.inr (Or.inl c7))))]
              · rw [if_neg c7, wrap_id (by omega) (by omega)]
                by_cases c8 : ac * 64 < sp
                · rw [if_pos c8, if_pos (Or.inr (Or.inr (Or.inr (Or.inr c8))))]
                · rw [if_neg c8, if_neg (by omega)]
theorem fault_eq (mn mx sp ac : Int) : spyref2_AxisFault.F mn mx sp ac = some (fault mn mx sp ac) := by
  rw [spyref2_AxisFault.F_eq]
  unfold fault
  by_cases c1 : mn < -17179869184
  · rw [if_pos c1, spyref2_AxisFault.J0_eq, if_pos rfl, if_pos (Or.inl c1)]
  · rw [if_neg c1, spyref2_AxisFault.J0_eq]
    by_cases c2 : mx > 17179869184
    · rw [if_pos (decide_eq_true c2), if_pos (Or.inr c2)]
    · have n1 : ¬ (mn < -17179869184 ∨ mx > 17179869184) := by omega
      rw [if_neg (by simpa using c2), if_neg n1]
      by_cases c3 : mn > mx
      · simp only [if_pos c3]
      · simp only [if_neg c3]
        by_cases c4 : sp < 16777216
        · rw [if_pos c4, if_pos (Or.inl c4)]
        · rw [if_neg c4]
          by_cases c5 : sp > 1073741824
          · rw [if_pos c5, if_pos (Or.inr (Or.inl c5))]
          · rw [if_neg c5]
            by_cases c7 : ac < 1
            · rw [if_pos c7, if_pos (Or.inr (Or.inr (Or.inr (Or.inl c7))))]
            · rw [if_neg c7]
              by_cases c6 : ac > sp
              · rw [if_pos c6, if_pos (Or.inr (Or.inr (Or.inl c6)))]
              · rw [if_neg c6, wrap_id (by omega) (by omega)]
                by_cases c8 : ac * 64 < sp
                · rw [if_pos (by omega), if_pos (Or.inr (Or.inr (Or.inr (Or.inr c8))))]
                · rw [if_neg (by omega), if_neg (by omega)]
theorem within_eq (mn_ mx_ sp ac p : Int) : spyref2_Within.f mn_ mx_ sp ac p = slew_In.f mn_ mx_ sp ac p := rfl
theorem in_eq (mn_ mx_ sp ac p : Int) : slew_In.f mn_ mx_ sp ac p = some (decide (mn_ ≤ p ∧ p ≤ mx_)) := by
  unfold slew_In.f
  by_cases c : mn_ ≤ p <;> simp [c]
def mfault (a0 a1 a2 a3 b0 b1 b2 b3 p q : Int) : Int :=
  if fault a0 a1 a2 a3 = 0 then (if fault b0 b1 b2 b3 = 0 then (if (a0 ≤ p ∧ p ≤ a1) ∧ b0 ≤ q ∧ q ≤ b1 then 0 else 4) else fault b0 b1 b2 b3) else fault a0 a1 a2 a3
theorem cmount_eq (a0 a1 a2 a3 b0 b1 b2 b3 p q : Int) : slew_CheckMount.F a0 a1 a2 a3 b0 b1 b2 b3 p q = some (mfault a0 a1 a2 a3 b0 b1 b2 b3 p q) := by
  rw [slew_CheckMount.F_eq]
  simp only [check_eq, in_eq, Option.bind_some]
  unfold mfault
  by_cases c1 : fault a0 a1 a2 a3 = 0
  · simp only [if_pos c1]
    by_cases c2 : fault b0 b1 b2 b3 = 0
    · simp only [if_pos c2]
      by_cases c3 : a0 ≤ p ∧ p ≤ a1 <;> by_cases c4 : b0 ≤ q ∧ q ≤ b1 <;> simp [c3, c4]
    · simp only [if_neg c2]
  · simp only [if_neg c1]
theorem rmount_eq (a0 a1 a2 a3 b0 b1 b2 b3 p q : Int) : spyref2_MountFault.F a0 a1 a2 a3 b0 b1 b2 b3 p q = some (mfault a0 a1 a2 a3 b0 b1 b2 b3 p q) := by
  rw [spyref2_MountFault.F_eq]
  simp only [fault_eq, within_eq, in_eq, Option.bind_some]
  unfold mfault
  by_cases c1 : fault a0 a1 a2 a3 = 0
  · simp only [if_pos c1]
    by_cases c2 : fault b0 b1 b2 b3 = 0
    · simp only [if_pos c2]
      by_cases c3 : a0 ≤ p ∧ p ≤ a1 <;> by_cases c4 : b0 ≤ q ∧ q ≤ b1 <;> simp [c3, c4]
    · simp only [if_neg c2]
  · simp only [if_neg c1]
theorem axes_true : spylaw2_axes.F = some true := run_at spylaw2_axes.F_mono 100 (by decide +kernel)
theorem SlewChecks : PureS := by
  intro a0 a1 a2 a3 b0 b1 b2 b3 c0 c1 c2 c3 c4 c5 p _ _ _ _ _ _ _ _ _ _ _ _ _ _ _
  refine rounds (g := fun k => spylaw2_SlewChecks.f k a0 a1 a2 a3 b0 b1 b2 b3 c0 c1 c2 c3 c4 c5 p) ?_
  show spylaw2_SlewChecks.F a0 a1 a2 a3 b0 b1 b2 b3 c0 c1 c2 c3 c4 c5 p = some true
  rw [spylaw2_SlewChecks.F_eq, axes_true]
  simp [check_eq, fault_eq, cmount_eq, rmount_eq, within_eq, in_eq]

end Go.Proofs.Ytchmfnmnijhjfaa.Pure
