/- PlanGoesOn: the pure statement, proved. -/
import Derived.Test.YtahedflmojodmaaGreatEB0
import Derived.Test.YtahedflmojodmaaGreatEB1
import Derived.Test.YtahedflmojodmaaGreatEB2
import Derived.Test.YtahedflmojodmaaGreatEB3
import Derived.Test.YtahedflmojodmaaGreatEB4
import Derived.Test.YtahedflmojodmaaGreatEB5
import Derived.Test.YtahedflmojodmaaGreatEB6
import Derived.Test.YtahedflmojodmaaGreatEB7
import Derived.Test.YtahedflmojodmaaGreatPl
import Derived.Test.YtahedflmojodmaaGreatLemA
import Derived.Test.YtahedflmojodmaaGreatLemB
import Derived.Test.YtahedflmojodmaaGreatLemC
import Derived.Test.YtahedflmojodmaaGreatLemD
namespace Go.Proofs.YtahedflmojodmaaGreat.Pure
set_option linter.unusedVariables false
set_option linter.unusedSimpArgs false
open Go Go.RowKit Go.Proofs.YtahedflmojodmaaGreat.Pv Go.Proofs.YtahedflmojodmaaGreat.Pl Go.Proofs.YtahedflmojodmaaGreat.EB

theorem PlanGoesOn : ∀ (x0 : (Int × Int) × (Int × Int × Int × Int) × Int × Int × Int × (Int × Int × Int) × (Int × Int × Int) × Int × List Int) (x1 : (Int × Int × Int × Int) × (Int × Int × Int × Int) × Int × Int) (x2 : (List (ByteArray × Int)) × List (Int × Int × (Int × Int × Int) × Int × Int × Int × Int × Int × Int × Int × Int)) (x3 : Int × (Int × Int) × List (List Int)), goodT Tryz.prog (.prod (.prod (.int .i64) (.int .i64)) (.prod (.prod (.int .i64) (.prod (.int .i64) (.prod (.int .i64) (.int .i64)))) (.prod (.int .i64) (.prod (.int .i64) (.prod (.int .i64) (.prod (.prod (.int .i64) (.prod (.int .i64) (.int .i64))) (.prod (.prod (.int .i64) (.prod (.int .i64) (.int .i64))) (.prod (.int .i64) (.list false 3 (.int .i64)))))))))) x0 → goodT Tryz.prog (.prod (.prod (.int .i64) (.prod (.int .i64) (.prod (.int .i64) (.int .i64)))) (.prod (.prod (.int .i64) (.prod (.int .i64) (.prod (.int .i64) (.int .i64)))) (.prod (.int .i64) (.int .i64)))) x1 → goodT Tryz.prog (.prod (.list false 121 (.prod .str (.int .i64))) (.list false 85 (.prod (.int .i64) (.prod (.int .i64) (.prod (.prod (.int .i64) (.prod (.int .i64) (.int .i64))) (.prod (.int .i64) (.prod (.int .i64) (.prod (.int .i64) (.prod (.int .i64) (.prod (.int .i64) (.prod (.int .i64) (.prod (.int .i64) (.int .i64))))))))))))) x2 → goodT Tryz.prog (.prod (.int .i64) (.prod (.prod (.int .i64) (.int .i64)) (.list false 33 (.list false 3 (.int .i64))))) x3 → spylaw2_PlanGoesOn x0 x1 x2 x3 = some true := by
  intro n m p s hn hm hp hs
  obtain ⟨e, c1, c2, c3⟩ := all_same n m p
  rw [spylaw2_PlanGoesOn_eq, plans_ok, bind_some_, if_neg (by decide), plan_From_eq, spylaw2_ready_eq, c2]
  by_cases he : e = 0
  · subst he
    obtain ⟨nok, pok⟩ := c3 rfl
    obtain ⟨hnight, hmount, mok⟩ := all_parts c1
    obtain ⟨cl, aim, dk, d1, d2⟩ := desk_new c1 hnight nok pok
    obtain ⟨f, f1, f2, _⟩ := state_same n m p s pok cl
    rw [d1, bind_some_, if_neg (show ¬ ((0 : Int) != 0) = true by decide), plan_Desk_From_eq, desk_check nok, f1, bind_some_, bind_some_, if_neg (show ¬ ((0 : Int) != 0) = true by decide), d2, bind_some_, f2, bind_some_]
    by_cases hf : f = 0
    · subst hf
      have st := check_ok pok f1
      obtain ⟨l, l1, l2, l3⟩ := from_run hnight hmount nok mok pok dk (prop_part c1) _ s [] rfl st (by have := st.slot; simp; omega)
      rw [if_neg (show ¬ ((0 : Int) != 0) = true by decide), st_clone pok st, bind_some_]
      simp only
      rw [l1, bind_some_, bind_some_, bind_some_, if_neg (show ¬ ((0 : Int) != 0) = true by decide), bind_some_, plan_Desk_From_eq, desk_check nok, f1, bind_some_, if_neg (show ¬ ((0 : Int) != 0) = true by decide), st_clone pok st, bind_some_]
      simp only
      rw [l1, bind_some_, if_pos (show ((0 : Int) == 0) = true by decide), if_pos (show ((0 : Int) == 0) = true by decide), if_pos (show ((0 : Int) == 0) = true by decide), spyref2_Table_Plan_eq, l2, bind_some_, eqv_same l l3, bind_some_, if_pos rfl, bind_some_]
    · have h : (f != 0) = true := by rw [ne_t]; exact hf
      rw [if_pos h, bind_some_, bind_some_, bind_some_, if_pos h, if_pos (by simp)]
      simp
  · have h : (e != 0) = true := by rw [ne_t]; exact he
    rw [new_zero c1 he, bind_some_, if_pos h, bind_some_, bind_some_, if_pos h, bind_some_, if_pos h, if_pos (by simp)]
    simp

end Go.Proofs.YtahedflmojodmaaGreat.Pure
