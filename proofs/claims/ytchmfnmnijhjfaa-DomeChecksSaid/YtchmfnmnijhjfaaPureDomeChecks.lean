/- DomeChecks: the pure statement, proved. -/
import Derived.Test.YtchmfnmnijhjfaaEA0
import Derived.Test.YtchmfnmnijhjfaaEA1
import Derived.Test.YtchmfnmnijhjfaaEA2
import Derived.Test.YtchmfnmnijhjfaaEA3
import Derived.Test.YtchmfnmnijhjfaaPl
import Derived.Test.YtchmfnmnijhjfaaLemAxis
import Derived.Test.YtchmfnmnijhjfaaLemAxisS
import Derived.Test.YtchmfnmnijhjfaaLemDome
namespace Go.Proofs.Ytchmfnmnijhjfaa.Pure
set_option linter.unusedVariables false
set_option linter.unusedSimpArgs false
open Go Go.RowKit Go.Proofs.Ytchmfnmnijhjfaa.Pv Go.Proofs.Ytchmfnmnijhjfaa.Pl Go.Proofs.Ytchmfnmnijhjfaa.EA

theorem tmod32 (x : Int) : Int.tmod x 4294967296 = if 0 ≤ x then x % 4294967296 else 0 - (0 - x) % 4294967296 := by
  split
  · exact Int.tmod_eq_emod_of_nonneg (by assumption)
  · have : x = -(0 - x) := by omega
    rw [this, Int.neg_tmod, Int.tmod_eq_emod_of_nonneg (by omega)]
    omega
theorem covers_same (s : DmS) (az : Int) : dome_Covers s az = spyref2_SlitCovers s az := by
  rw [dome_Covers_eq, spyref2_SlitCovers_eq]
  have h1 := tmod32 s.2.2.2.2.1
  have h2 := tmod32 az
  generalize Int.tmod s.2.2.2.2.1 4294967296 = x at *
  generalize Int.tmod az 4294967296 = y at *
  have x0 : -4294967296 < x ∧ x < 4294967296 := by split at h1 <;> omega
  have y0 : -4294967296 < y ∧ y < 4294967296 := by split at h2 <;> omega
  clear h1 h2
  rw [wi (x := x - y) (by omega) (by omega), wi (x := x - y + 8589934592) (by omega) (by omega)]
  have t1 := tmod32 (x - y)
  have t2 := tmod32 (x - y + 8589934592)
  generalize Int.tmod (x - y) 4294967296 = t at *
  generalize Int.tmod (x - y + 8589934592) 4294967296 = u at *
  have t0 : -4294967296 < t ∧ t < 4294967296 := by split at t1 <;> omega
  have key : u = if t < 0 then t + 4294967296 else t := by split at t1 <;> split at t2 <;> split <;> omega
  rw [wi (x := t + 4294967296) (by omega) (by omega), key]
  simp only [dt, df]
  by_cases c : t < 0
  · rw [if_pos c, if_pos c]
  · rw [if_neg c, if_neg c]
theorem DomeChecks : ∀ (x0 : Int × Int × Bool × Bool × Int × Int × Int × Bool) (x1 : Int), goodT Try.prog (.prod (.int .i64) (.prod (.int .i64) (.prod .bool (.prod .bool (.prod (.int .i64) (.prod (.int .i64) (.prod (.int .i64) .bool))))))) x0 → goodT Try.prog (.int .i64) x1 → spylaw2_DomeChecks x0 x1 = some true := by
  rintro ⟨a, b, s3, s4, p, v, g, h⟩ az _ _
  obtain ⟨e, e1, e2, _⟩ := dome_same a b p v g s3 s4 h
  rw [spylaw2_DomeChecks_eq, domes_true, bind_some_, if_pos (by simp), dome_Axis_eq, spyref2_Turner_eq, bind_some_, bind_some_, if_pos (by simp), e1, bind_some_, e2, bind_some_, if_pos (by simp), covers_same]
  obtain ⟨c, hc⟩ : ∃ c, spyref2_SlitCovers (a, b, s3, s4, p, v, g, h) az = some c := by
    rw [spyref2_SlitCovers_eq]
    split <;> exact ⟨_, rfl⟩
  rw [hc, bind_some_, bind_some_, if_neg (by simp), dome_Closed_eq, dome_Clear_eq]
  simp only [eq_t]
  by_cases c1 : a = 0
  · simp [c1]
  · by_cases c2 : a = 100
    · by_cases c3 : b = 20
      · cases s3 <;> simp [c2, c3]
      · simp [c2, c3]
    · simp [c1, c2]

end Go.Proofs.Ytchmfnmnijhjfaa.Pure
