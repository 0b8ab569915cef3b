/- States of domes. -/
import Derived.Test.YtmbjpenjcfkaoaaEA0
import Derived.Test.YtmbjpenjcfkaoaaEA1
import Derived.Test.YtmbjpenjcfkaoaaEA2
import Derived.Test.YtmbjpenjcfkaoaaEA3
import Derived.Test.YtmbjpenjcfkaoaaEA4
import Derived.Test.YtmbjpenjcfkaoaaPl
import Derived.Test.YtmbjpenjcfkaoaaLemAxis
import Derived.Test.YtmbjpenjcfkaoaaLemAxisS
namespace Go.Proofs.Ytmbjpenjcfkaoaa.Pure
set_option linter.unusedVariables false
set_option linter.unusedSimpArgs false
open Go Go.RowKit Go.Proofs.Ytmbjpenjcfkaoaa.Pv Go.Proofs.Ytmbjpenjcfkaoaa.Pl Go.Proofs.Ytmbjpenjcfkaoaa.EA

/-! States of domes. -/
abbrev DmS := Int × Int × Bool × Bool × Int × Int × Int × Bool
theorem domes_true : spylaw2_domes = some true := callL_some.2 ⟨200, by kernel_rfl⟩
theorem dome_same (a b p v g : Int) (s3 s4 h : Bool) : ∃ e, dome_Check (a, b, s3, s4, p, v, g, h) = some e ∧ spyref2_DomeFault (a, b, s3, s4, p, v, g, h) = some e ∧
    (e = 0 → 0 ≤ a ∧ a ≤ 100 ∧ 0 ≤ b ∧ b ≤ 20 ∧ (b > 0 → a = 100) ∧ fault (-8589934592) 8589934592 33554432 4194304 = 0 ∧ StOk (-8589934592) 8589934592 33554432 4194304 p v g ∧ axis_Check ((-8589934592), 8589934592, 33554432, 4194304) (p, v, g, h) = some 0) := by
  obtain ⟨f, f1, f2, f3, _⟩ := state_same (-8589934592) 8589934592 33554432 4194304 p v g h
  have x1 : dome_Check.p5 (a, b, s3, s4, p, v, g, h) = some f := by
    rw [dome_Check.p5_eq, dome_Axis_eq, bind_some_]
    simp only []
    rw [f1]
    rfl
  have x2 : spyref2_DomeFault.p5 (a, b, s3, s4, p, v, g, h) = some f := by
    rw [spyref2_DomeFault.p5_eq, spyref2_Turner_eq, bind_some_]
    simp only []
    rw [f2]
    rfl
  rw [dome_Check_eq, spyref2_DomeFault_eq]
  simp only [spyref2_In_eq, bind_ite, bind_some_, dt, df, x1, x2, ne_t, not_t, not_f]
  by_cases c1 : 0 ≤ a
  · by_cases c2 : a ≤ 100
    · by_cases c3 : 0 ≤ b
      · by_cases c4 : b ≤ 20
        · by_cases c5 : b > 0
          · by_cases c6 : a = 100
            · refine ⟨f, ?_, ?_, fun q => ?_⟩
              · simp (disch := omega) only [if_pos, if_neg]
              · simp (disch := omega) only [if_pos, if_neg]
              · subst q
                exact ⟨c1, c2, c3, c4, fun _ => c6, (f3 rfl).1, (f3 rfl).2, f1⟩
            · refine ⟨16, ?_, ?_, fun q => by omega⟩
              · simp (disch := omega) only [if_pos, if_neg]
              · simp (disch := omega) only [if_pos, if_neg]
          · refine ⟨f, ?_, ?_, fun q => ?_⟩
            · simp (disch := omega) only [if_pos, if_neg]
            · simp (disch := omega) only [if_pos, if_neg]
            · subst q
              exact ⟨c1, c2, c3, c4, fun q => absurd q c5, (f3 rfl).1, (f3 rfl).2, f1⟩
        · refine ⟨4, ?_, ?_, fun q => by omega⟩
          · simp (disch := omega) only [if_pos, if_neg]
          · simp (disch := omega) only [if_pos, if_neg]
      · refine ⟨4, ?_, ?_, fun q => by omega⟩
        · simp (disch := omega) only [if_pos, if_neg]
        · simp (disch := omega) only [if_pos, if_neg, Bool.false_eq_true, if_false, if_true]
    · refine ⟨4, ?_, ?_, fun q => by omega⟩
      · simp (disch := omega) only [if_pos, if_neg]
      · simp (disch := omega) only [if_pos, if_neg]
  · refine ⟨4, ?_, ?_, fun q => by omega⟩
    · simp (disch := omega) only [if_pos, if_neg]
    · simp (disch := omega) only [if_pos, if_neg, Bool.false_eq_true, if_false, if_true]

end Go.Proofs.Ytmbjpenjcfkaoaa.Pure
