/- CameraOrders: the pure statement, proved. -/
import Derived.Test.YtdcdbdlleojaaaaEA0
import Derived.Test.YtdcdbdlleojaaaaEA1
import Derived.Test.YtdcdbdlleojaaaaEA2
import Derived.Test.YtdcdbdlleojaaaaEA3
import Derived.Test.YtdcdbdlleojaaaaEA4
import Derived.Test.YtdcdbdlleojaaaaEA5
import Derived.Test.YtdcdbdlleojaaaaPl
namespace Go.Proofs.Ytdcdbdlleojaaaa.Pure
set_option linter.unusedVariables false
set_option linter.unusedSimpArgs false
open Go Go.RowKit Go.Proofs.Ytdcdbdlleojaaaa.Pv Go.Proofs.Ytdcdbdlleojaaaa.Pl Go.Proofs.Ytdcdbdlleojaaaa.EA

theorem cams : spylaw2_cameras = some true := callL_some.2 ⟨200, by kernel_rfl⟩
/-- What is wrong with a camera's state. -/
def cfault (m l b n : Int) : Int :=
  if 0 ≤ m ∧ m ≤ 3 ∧ 0 ≤ n ∧ n ≤ 1073741824 ∧ 0 ≤ b ∧ b ≤ 16 then
    (if (m = 0 → l = 0 ∧ b = 0) ∧ (m = 1 → 1 ≤ l ∧ l ≤ b) ∧ (m = 2 → 1 ≤ l ∧ l ≤ 3) ∧ (m = 3 → l = 0) ∧ (m ≠ 0 → n ≠ 0) then 0 else 3)
  else 4
theorem cf4 {m l b n : Int} (h : ¬ (0 ≤ m ∧ m ≤ 3 ∧ 0 ≤ n ∧ n ≤ 1073741824 ∧ 0 ≤ b ∧ b ≤ 16)) : some 4 = some (cfault m l b n) := by rw [cfault, if_neg h]
theorem cf3 {m l b n : Int} (h : 0 ≤ m ∧ m ≤ 3 ∧ 0 ≤ n ∧ n ≤ 1073741824 ∧ 0 ≤ b ∧ b ≤ 16) (k : ¬ ((m = 0 → l = 0 ∧ b = 0) ∧ (m = 1 → 1 ≤ l ∧ l ≤ b) ∧ (m = 2 → 1 ≤ l ∧ l ≤ 3) ∧ (m = 3 → l = 0) ∧ (m ≠ 0 → n ≠ 0))) : some 3 = some (cfault m l b n) := by rw [cfault, if_pos h, if_neg k]
theorem cf0 {m l b n : Int} (h : 0 ≤ m ∧ m ≤ 3 ∧ 0 ≤ n ∧ n ≤ 1073741824 ∧ 0 ≤ b ∧ b ≤ 16) (k : (m = 0 → l = 0 ∧ b = 0) ∧ (m = 1 → 1 ≤ l ∧ l ≤ b) ∧ (m = 2 → 1 ≤ l ∧ l ≤ 3) ∧ (m = 3 → l = 0) ∧ (m ≠ 0 → n ≠ 0)) : some 0 = some (cfault m l b n) := by rw [cfault, if_pos h, if_pos k]
theorem check_eq (m l b n : Int) : camera_Check (m, l, b, n) = some (cfault m l b n) := by
  simp only [camera_Check_eq, camera_Check.p13_eq, dt, df, eq_t, ne_t, not_f, Bool.false_eq_true, if_true, if_false, ite_not]
  repeat' (refine ite_eq (fun _ => ?_) (fun _ => ?_))
  all_goals first | exact cf4 (by omega) | exact cf3 (by omega) (by omega) | exact cf0 (by omega) (by omega) | omega
theorem fault_eq (m l b n : Int) : spyref2_CameraFault (m, l, b, n) = some (cfault m l b n) := by
  simp only [spyref2_CameraFault_eq, spyref2_CameraFault.p9_eq, spyref2_In_eq, bind_ite, bind_some_, dt, df, eq_t, ne_t, ne_f, not_f, not_t, Bool.false_eq_true, if_true, if_false, ite_not]
  repeat' (refine ite_eq (fun _ => ?_) (fun _ => ?_))
  all_goals first | exact cf4 (by omega) | exact cf3 (by omega) (by omega) | exact cf0 (by omega) (by omega) | omega
theorem t28 (c : Int) (m l b n : Int) (hc : cfault m l b n = c) (e : Int) (y : Int × Int × Int × Int) : spylaw2_CameraOrders.p24 c e e (m, l, b, n) y y = some true := by
  rw [spylaw2_CameraOrders.p24_eq, if_pos (by simp), if_neg (by simp), camera_Fetch_eq, check_eq, hc, bind_some_]
  by_cases k : c = 0
  · subst k
    rw [if_neg (by simp)]
    by_cases j : m = 3
    · simp [j]
    · simp [j, spylaw2_CameraOrders.p28_eq]
  · simp [k, spylaw2_CameraOrders.p28_eq]
theorem t16 (c : Int) (m l b n : Int) (hc : cfault m l b n = c) (e : Int) (y : Int × Int × Int × Int) : spylaw2_CameraOrders.p16 c e e (m, l, b, n) y y = some true := by
  rw [spylaw2_CameraOrders.p16_eq, if_pos (by simp), if_neg (by simp), camera_Abort_eq, check_eq, hc, bind_some_]
  by_cases k : c = 0
  · subst k
    rw [if_neg (by simp)]
    by_cases j : m = 1
    · simp [j, spylaw2_CameraOrders.p22_eq]
      exact t28 0 1 l b n (by rw [← j]; exact hc) _ _
    · simp [j, spylaw2_CameraOrders.p22_eq]
      exact t28 0 m l b n hc _ _
  · simp [k, spylaw2_CameraOrders.p22_eq]
    exact t28 c m l b n hc _ _
theorem CameraOrders : ∀ (x0 : Int × Int × Int × Int) (x1 : Int), goodT Try.prog (.prod (.int .i64) (.prod (.int .i64) (.prod (.int .i64) (.int .i64)))) x0 → goodT Try.prog (.int .i64) x1 → spylaw2_CameraOrders x0 x1 = some true := by
  rintro ⟨m, l, b, n⟩ beats _ _
  have t := t16 (cfault m l b n) m l b n rfl
  rw [spylaw2_CameraOrders_eq, fault_eq, cams, bind_some_, bind_some_, if_pos (by simp), check_eq, bind_some_, if_neg (by simp), camera_Expose_eq, check_eq, bind_some_]
  generalize cfault m l b n = c at *
  simp only [ne_t, eq_t, spyref2_In_eq, dt, df]
  by_cases k : c = 0
  · subst k
    by_cases j : m = 0
    · by_cases b0 : 0 ≤ beats
      · by_cases b1 : beats ≤ 16
        · by_cases b2 : n = 1073741824
          · simp [j, b0, b1, b2, show ¬ beats < 0 by omega, show ¬ beats > 16 by omega]
            simpa [j, b2] using t _ _
          · by_cases b3 : beats = 0
            · simp [j, b2, b3]
              simpa [j] using t _ _
            · simp [j, b0, b1, b2, b3, show ¬ beats < 0 by omega, show ¬ beats > 16 by omega]
              simpa [j] using t _ _
        · simp [j, b0, b1, show ¬ beats < 0 by omega, show beats > 16 by omega]
          simpa [j] using t _ _
      · simp [j, b0, show beats < 0 by omega]
        simpa [j] using t _ _
    · simp [j]
      exact t _ _
  · simp [k]
    exact t _ _

end Go.Proofs.Ytdcdbdlleojaaaa.Pure
