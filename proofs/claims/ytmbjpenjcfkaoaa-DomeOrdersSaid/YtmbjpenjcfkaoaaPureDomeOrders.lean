/- DomeOrders: the pure statement, proved. -/
import Derived.Test.YtmbjpenjcfkaoaaEA0
import Derived.Test.YtmbjpenjcfkaoaaEA1
import Derived.Test.YtmbjpenjcfkaoaaEA2
import Derived.Test.YtmbjpenjcfkaoaaEA3
import Derived.Test.YtmbjpenjcfkaoaaEA4
import Derived.Test.YtmbjpenjcfkaoaaEA5
import Derived.Test.YtmbjpenjcfkaoaaEA6
import Derived.Test.YtmbjpenjcfkaoaaEA7
import Derived.Test.YtmbjpenjcfkaoaaEA8
import Derived.Test.YtmbjpenjcfkaoaaEA9
import Derived.Test.YtmbjpenjcfkaoaaPl
import Derived.Test.YtmbjpenjcfkaoaaLemAxis
import Derived.Test.YtmbjpenjcfkaoaaLemAxisS
import Derived.Test.YtmbjpenjcfkaoaaLemDome
import Derived.Test.YtmbjpenjcfkaoaaLemTarget
namespace Go.Proofs.Ytmbjpenjcfkaoaa.Pure
set_option linter.unusedVariables false
set_option linter.unusedSimpArgs false
open Go Go.RowKit Go.Proofs.Ytmbjpenjcfkaoaa.Pv Go.Proofs.Ytmbjpenjcfkaoaa.Pl Go.Proofs.Ytmbjpenjcfkaoaa.EA

theorem send_of {mn_ mx sp ac p v g t : Int} {h : Bool} (ok : axis_Check (mn_, mx, sp, ac) (p, v, g, h) = some 0) (t0 : mn_ ≤ t) (t1 : t ≤ mx) : axis_Send (mn_, mx, sp, ac) (p, v, g, h) t = some ((p, v, t, false), 0) := by
  rw [axis_Send_eq, ok, bind_some_, if_neg (by simp), in_eq, bind_some_, if_neg (by rw [not_t, df]; exact fun q => q ⟨t0, t1⟩)]
theorem turn_target {fr ang : Int} (f0 : -8589934592 ≤ fr) (f1 : fr ≤ 8589934592) (w : (Lit.int .i64 ang).wf = true) : ∃ r, slew_Target ((-8589934592), 8589934592, 33554432, 4194304) fr ang = some (r, 0) := by
  have wa := wf64 w
  have hF : fault (-8589934592) 8589934592 33554432 4194304 = 0 := by decide
  rw [slew_Target_eq, check_eq, bind_some_]
  simp only [ne_t, not_t, df, dt, in_eq, bind_some_]
  have nF : ¬ (fault (-8589934592) 8589934592 33554432 4194304 ≠ 0) := fun q => q hF
  have n1 : ¬ ¬ (-8589934592 ≤ fr ∧ fr ≤ 8589934592) := fun q => q ⟨f0, f1⟩
  rw [if_neg nF, if_neg n1, mod_eq ang (by omega) (by omega), mod_eq (-8589934592) (by omega) (by omega), bind_some_, bind_some_, wi (x := ang % 4294967296 - -8589934592 % 4294967296) (by omega) (by omega), mod_eq _ (by omega) (by omega), bind_some_, wi (x := -8589934592 + (ang % 4294967296 - -8589934592 % 4294967296) % 4294967296) (by omega) (by omega), if_neg (by omega)]
  obtain ⟨r, r1, _⟩ := target_l0 (sp := 33554432) (ac := 4194304) (mn_ := -8589934592) (mx_ := 8589934592) (by omega) (by omega) (by omega) f0 f1 10 (-8589934592 + (ang % 4294967296 - -8589934592 % 4294967296) % 4294967296) (-8589934592 + (ang % 4294967296 - -8589934592 % 4294967296) % 4294967296) (ang := ang) (by omega) (by omega) (by omega) (by omega) (Or.inr ⟨rfl, by omega, by omega⟩)
  exact ⟨r, r1⟩
theorem DomeOrders : ∀ (x0 : Int × Int × Bool × Bool × Int × Int × Int × Bool) (x1 : Bool) (x2 : Bool) (x3 : Int), goodT Try.prog (.prod (.int .i64) (.prod (.int .i64) (.prod .bool (.prod .bool (.prod (.int .i64) (.prod (.int .i64) (.prod (.int .i64) .bool))))))) x0 → goodT Try.prog .bool x1 → goodT Try.prog .bool x2 → goodT Try.prog (.int .i64) x3 → spylaw2_DomeOrders x0 x1 x2 x3 = some true := by
  rintro ⟨a, b, s3, s4, p, v, g, h⟩ op li az _ _ _ haz
  rw [goodT] at haz
  obtain ⟨e, e1, e2, e3⟩ := dome_same a b p v g s3 s4 h
  rw [spylaw2_DomeOrders_eq, domes_true, bind_some_, if_neg (by simp), dome_Set_eq, dome_Rotate_eq, dome_Brake_eq, e1, e2]
  simp only [bind_some_, ne_t, dome_Axis_eq, spyref2_Turner_eq]
  by_cases c : e = 0
  · subst c
    obtain ⟨a0, a1, b0, b1, _, c1, o1, q1⟩ := e3 rfl
    obtain ⟨r, r1, r2, r3⟩ := target_all (-8589934592) 8589934592 33554432 4194304 p az haz
    rw [r1, r2]
    have rz : r.2 = 0 := by
      obtain ⟨q, hq⟩ := turn_target o1.p0 o1.p1 haz
      rw [r1] at hq
      cases hq
      rfl
    obtain ⟨_, _, _, t0, t1⟩ := r3 rz
    simp only [bind_some_, ne_eq, not_true_eq_false, if_false, rz, axis_Brake_eq, q1, send_of q1 t0 t1]
    simp
  · simp only [if_pos c, bind_some_]
    simp

end Go.Proofs.Ytmbjpenjcfkaoaa.Pure
