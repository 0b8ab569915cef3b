/- Turning a dome; what a slit covers. -/
import Derived.Test.YtmbjpenjcfkaoaaEA0
import Derived.Test.YtmbjpenjcfkaoaaEA1
import Derived.Test.YtmbjpenjcfkaoaaEA2
import Derived.Test.YtmbjpenjcfkaoaaEA3
import Derived.Test.YtmbjpenjcfkaoaaEA4
import Derived.Test.YtmbjpenjcfkaoaaPl
import Derived.Test.YtmbjpenjcfkaoaaLemAxis
import Derived.Test.YtmbjpenjcfkaoaaLemAxisS
import Derived.Test.YtmbjpenjcfkaoaaLemDome
import Derived.Test.YtmbjpenjcfkaoaaLemTarget
namespace Go.Proofs.Ytmbjpenjcfkaoaa.Pure
set_option linter.unusedVariables false
set_option linter.unusedSimpArgs false
open Go Go.RowKit Go.Proofs.Ytmbjpenjcfkaoaa.Pv Go.Proofs.Ytmbjpenjcfkaoaa.Pl Go.Proofs.Ytmbjpenjcfkaoaa.EA

/-! Turning a dome. -/
theorem send_of {mn_ mx sp ac p v g t : Int} {h : Bool} (ok : axis_Check (mn_, mx, sp, ac) (p, v, g, h) = some 0) (t0 : mn_ ≤ t) (t1 : t ≤ mx) : axis_Send (mn_, mx, sp, ac) (p, v, g, h) t = some ((p, v, t, false), 0) := by
  rw [axis_Send_eq, ok, bind_some_, if_neg (by simp), in_eq, bind_some_, if_neg (by rw [not_t, df]; exact fun q => q ⟨t0, t1⟩)]
theorem turn_target {fr ang : Int} (f0 : -8589934592 ≤ fr) (f1 : fr ≤ 8589934592) (w : (Lit.int .i64 ang).wf = true) : ∃ r, slew_Target ((-8589934592), 8589934592, 33554432, 4194304) fr ang = some (r, 0) := by
  have wa := wf64 w
  have hF : fault (-8589934592) 8589934592 33554432 4194304 = 0 := by decide
  rw [slew_Target_eq, check_eq, bind_some_]
  simp only [ne_t, not_t, df, dt, in_eq, bind_some_]
  have nF : ¬ (fault (-8589934592) 8589934592 33554432 4194304 ≠ 0) := fun q => q hF
  have n1 : ¬ ¬ (-8589934592 ≤ fr ∧ fr ≤ 8589934592) := fun q => q ⟨f0, f1⟩
  rw [if_neg nF, if_neg n1, mod_eq ang (by omega) (by omega), mod_eq (-8589934592) (by omega) (by omega), bind_some_, bind_some_, wi (x := ang % 4294967296 - -8589934592 % 4294967296) (by omega) (by omega), mod_eq _ (by omega) (by omega), bind_some_, wi (x := -8589934592 + (ang % 4294967296 - -8589934592 % 4294967296) % 4294967296) (by omega) (by omega), if_neg (by omega)]
  obtain ⟨r, r1, _⟩ := target_l0 (sp := 33554432) (ac := 4194304) (mn_ := -8589934592) (mx_ := 8589934592) (by omega) (by omega) (by omega) f0 f1 10 (-8589934592 + (ang % 4294967296 - -8589934592 % 4294967296) % 4294967296) (-8589934592 + (ang % 4294967296 - -8589934592 % 4294967296) % 4294967296) (ang := ang) (by omega) (by omega) (by omega) (by omega) (Or.inr ⟨rfl, by omega, by omega⟩)
  exact ⟨r, r1⟩
/-! What a slit covers. -/
theorem tmod32 (x : Int) : Int.tmod x 4294967296 = if 0 ≤ x then x % 4294967296 else 0 - (0 - x) % 4294967296 := by
  split
  · exact Int.tmod_eq_emod_of_nonneg (by assumption)
  · have : x = -(0 - x) := by omega
    rw [this, Int.neg_tmod, Int.tmod_eq_emod_of_nonneg (by omega)]
    omega
theorem covers_same (s : DmS) (az : Int) : dome_Covers s az = spyref2_SlitCovers s az := by
  rw [dome_Covers_eq, spyref2_SlitCovers_eq]
  have h1 := tmod32 s.2.2.2.2.1
  have h2 := tmod32 az
  generalize Int.tmod s.2.2.2.2.1 4294967296 = x at *
  generalize Int.tmod az 4294967296 = y at *
  have x0 : -4294967296 < x ∧ x < 4294967296 := by split at h1 <;> omega
  have y0 : -4294967296 < y ∧ y < 4294967296 := by split at h2 <;> omega
  clear h1 h2
  rw [wi (x := x - y) (by omega) (by omega), wi (x := x - y + 8589934592) (by omega) (by omega)]
  have t1 := tmod32 (x - y)
  have t2 := tmod32 (x - y + 8589934592)
  generalize Int.tmod (x - y) 4294967296 = t at *
  generalize Int.tmod (x - y + 8589934592) 4294967296 = u at *
  have t0 : -4294967296 < t ∧ t < 4294967296 := by split at t1 <;> omega
  have key : u = if t < 0 then t + 4294967296 else t := by split at t1 <;> split at t2 <;> split <;> omega
  rw [wi (x := t + 4294967296) (by omega) (by omega), key]
  simp only [dt, df]
  by_cases c : t < 0
  · rw [if_pos c, if_pos c]
  · rw [if_neg c, if_neg c]

end Go.Proofs.Ytmbjpenjcfkaoaa.Pure
