/- PlanMakes: the pure statement, proved. -/
import Derived.Test.YtahedflmojodmaaGreatEB0
import Derived.Test.YtahedflmojodmaaGreatEB1
import Derived.Test.YtahedflmojodmaaGreatEB2
import Derived.Test.YtahedflmojodmaaGreatEB3
import Derived.Test.YtahedflmojodmaaGreatEB4
import Derived.Test.YtahedflmojodmaaGreatEB5
import Derived.Test.YtahedflmojodmaaGreatEB6
import Derived.Test.YtahedflmojodmaaGreatEB7
import Derived.Test.YtahedflmojodmaaGreatPl
import Derived.Test.YtahedflmojodmaaGreatLemA
import Derived.Test.YtahedflmojodmaaGreatLemB
import Derived.Test.YtahedflmojodmaaGreatLemC
import Derived.Test.YtahedflmojodmaaGreatLemD
namespace Go.Proofs.YtahedflmojodmaaGreat.Pure
set_option linter.unusedVariables false
set_option linter.unusedSimpArgs false
open Go Go.RowKit Go.Proofs.YtahedflmojodmaaGreat.Pv Go.Proofs.YtahedflmojodmaaGreat.Pl Go.Proofs.YtahedflmojodmaaGreat.EB

theorem PlanMakes : ∀ (x0 : (Int × Int) × (Int × Int × Int × Int) × Int × Int × Int × (Int × Int × Int) × (Int × Int × Int) × Int × List Int) (x1 : (Int × Int × Int × Int) × (Int × Int × Int × Int) × Int × Int) (x2 : (List (ByteArray × Int)) × List (Int × Int × (Int × Int × Int) × Int × Int × Int × Int × Int × Int × Int × Int)), goodT Tryz.prog (.prod (.prod (.int .i64) (.int .i64)) (.prod (.prod (.int .i64) (.prod (.int .i64) (.prod (.int .i64) (.int .i64)))) (.prod (.int .i64) (.prod (.int .i64) (.prod (.int .i64) (.prod (.prod (.int .i64) (.prod (.int .i64) (.int .i64))) (.prod (.prod (.int .i64) (.prod (.int .i64) (.int .i64))) (.prod (.int .i64) (.list false 3 (.int .i64)))))))))) x0 → goodT Tryz.prog (.prod (.prod (.int .i64) (.prod (.int .i64) (.prod (.int .i64) (.int .i64)))) (.prod (.prod (.int .i64) (.prod (.int .i64) (.prod (.int .i64) (.int .i64)))) (.prod (.int .i64) (.int .i64)))) x1 → goodT Tryz.prog (.prod (.list false 121 (.prod .str (.int .i64))) (.list false 85 (.prod (.int .i64) (.prod (.int .i64) (.prod (.prod (.int .i64) (.prod (.int .i64) (.int .i64))) (.prod (.int .i64) (.prod (.int .i64) (.prod (.int .i64) (.prod (.int .i64) (.prod (.int .i64) (.prod (.int .i64) (.prod (.int .i64) (.int .i64))))))))))))) x2 → spylaw2_PlanMakes x0 x1 x2 = some true := by
  intro n m p hn hm hp
  obtain ⟨e, c1, c2, c3⟩ := all_same n m p
  have hsz : p.2.length * 24 ≤ 140737488355328 := by
    have h := hp.2.2.1
    have hb : Tryz.prog.bytesOf 85 = 104 := by kernel_rfl
    rw [hb] at h
    omega
  rw [spylaw2_PlanMakes_eq, plans_ok, bind_some_, if_neg (by decide), plan_Make_eq, plan_Start_eq, if_pos rfl, if_pos (by omega), if_pos hsz, bind_some_, plan_From_eq, c2]
  by_cases he : e = 0
  · subst he
    obtain ⟨nok, pok⟩ := c3 rfl
    obtain ⟨hnight, hmount, mok⟩ := all_parts c1
    obtain ⟨cl, aim, dk, d1, d2⟩ := desk_new c1 hnight nok pok
    have sk := start_ok nok mok pok
    have st := check_ok pok sk
    obtain ⟨l, l1, l2, l3⟩ := from_run hnight hmount nok mok pok dk (prop_part c1) _ (0, m.2.2, List.replicate p.2.length []) [] rfl st (by simp)
    rw [d1, bind_some_, if_neg (show ¬ ((0 : Int) != 0) = true by decide), plan_Desk_From_eq, desk_check nok, sk, bind_some_, if_neg (show ¬ ((0 : Int) != 0) = true by decide), st_clone pok st, bind_some_]
    simp only
    rw [l1, bind_some_, bind_some_, bind_some_, bind_some_, if_neg (show ¬ ((0 : Int) != 0) = true by decide), d2, bind_some_, if_pos (show ((0 : Int) == 0) = true by decide), spyref2_Table_First_eq]
    simp only
    rw [if_pos trivial, if_pos (by omega), if_pos hsz, bind_some_, spyref2_Table_Plan_eq, l2, bind_some_, eqv_same l l3, bind_some_]
  · have h : (e != 0) = true := by rw [ne_t]; exact he
    rw [new_zero c1 he, bind_some_, if_pos h, bind_some_, bind_some_, bind_some_, if_pos h, if_pos (by simp)]
    simp

end Go.Proofs.YtahedflmojodmaaGreat.Pure
