/- States of cameras. -/
import Derived.Test.YtmbjpenjcfkaoaaEA0
import Derived.Test.YtmbjpenjcfkaoaaEA1
import Derived.Test.YtmbjpenjcfkaoaaEA2
import Derived.Test.YtmbjpenjcfkaoaaEA3
import Derived.Test.YtmbjpenjcfkaoaaEA4
import Derived.Test.YtmbjpenjcfkaoaaPl
namespace Go.Proofs.Ytmbjpenjcfkaoaa.Pure
set_option linter.unusedVariables false
set_option linter.unusedSimpArgs false
open Go Go.RowKit Go.Proofs.Ytmbjpenjcfkaoaa.Pv Go.Proofs.Ytmbjpenjcfkaoaa.Pl Go.Proofs.Ytmbjpenjcfkaoaa.EA

/-! States of cameras. -/
/-- What is wrong with a camera's state. -/
def cfault (m l b n : Int) : Int :=
  if 0 ≤ m ∧ m ≤ 3 ∧ 0 ≤ n ∧ n ≤ 1073741824 ∧ 0 ≤ b ∧ b ≤ 16 then
    (if (m = 0 → l = 0 ∧ b = 0) ∧ (m = 1 → 1 ≤ l ∧ l ≤ b) ∧ (m = 2 → 1 ≤ l ∧ l ≤ 3) ∧ (m = 3 → l = 0) ∧ (m ≠ 0 → n ≠ 0) then 0 else 3)
  else 4
theorem cf4 {m l b n : Int} (h : ¬ (0 ≤ m ∧ m ≤ 3 ∧ 0 ≤ n ∧ n ≤ 1073741824 ∧ 0 ≤ b ∧ b ≤ 16)) : some 4 = some (cfault m l b n) := by rw [cfault, if_neg h]
theorem cf3 {m l b n : Int} (h : 0 ≤ m ∧ m ≤ 3 ∧ 0 ≤ n ∧ n ≤ 1073741824 ∧ 0 ≤ b ∧ b ≤ 16) (k : ¬ ((m = 0 → l = 0 ∧ b = 0) ∧ (m = 1 → 1 ≤ l ∧ l ≤ b) ∧ (m = 2 → 1 ≤ l ∧ l ≤ 3) ∧ (m = 3 → l = 0) ∧ (m ≠ 0 → n ≠ 0))) : some 3 = some (cfault m l b n) := by rw [cfault, if_pos h, if_neg k]
theorem cf0 {m l b n : Int} (h : 0 ≤ m ∧ m ≤ 3 ∧ 0 ≤ n ∧ n ≤ 1073741824 ∧ 0 ≤ b ∧ b ≤ 16) (k : (m = 0 → l = 0 ∧ b = 0) ∧ (m = 1 → 1 ≤ l ∧ l ≤ b) ∧ (m = 2 → 1 ≤ l ∧ l ≤ 3) ∧ (m = 3 → l = 0) ∧ (m ≠ 0 → n ≠ 0)) : some 0 = some (cfault m l b n) := by rw [cfault, if_pos h, if_pos k]
theorem cam_check (m l b n : Int) : camera_Check (m, l, b, n) = some (cfault m l b n) := by
  simp only [camera_Check_eq, camera_Check.p13_eq, dt, df, eq_t, ne_t, not_f, Bool.false_eq_true, if_true, if_false, ite_not]
  repeat' (refine ite_eq (fun _ => ?_) (fun _ => ?_))
  all_goals first | exact cf4 (by omega) | exact cf3 (by omega) (by omega) | exact cf0 (by omega) (by omega) | omega
theorem cam_fault (m l b n : Int) : spyref2_CameraFault (m, l, b, n) = some (cfault m l b n) := by
  simp only [spyref2_CameraFault_eq, spyref2_CameraFault.p9_eq, spyref2_In_eq, bind_ite, bind_some_, dt, df, eq_t, ne_t, ne_f, not_f, not_t, Bool.false_eq_true, if_true, if_false, ite_not]
  repeat' (refine ite_eq (fun _ => ?_) (fun _ => ?_))
  all_goals first | exact cf4 (by omega) | exact cf3 (by omega) (by omega) | exact cf0 (by omega) (by omega) | omega

end Go.Proofs.Ytmbjpenjcfkaoaa.Pure
