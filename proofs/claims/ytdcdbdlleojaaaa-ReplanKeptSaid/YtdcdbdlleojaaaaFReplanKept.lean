/- The functions that the law ReplanKept reaches, without their count of rounds, and their equations. -/
import Derived.Test.YtdcdbdlleojaaaaPReplanKeptx0
import Derived.Test.YtdcdbdlleojaaaaPReplanKeptx1
import Derived.Test.YtdcdbdlleojaaaaPReplanKeptx2
import Derived.Test.YtdcdbdlleojaaaaPReplanKeptx3
import Derived.Test.YtdcdbdlleojaaaaPReplanKeptx4
import Derived.Test.YtdcdbdlleojaaaaPReplanKeptx5
import Derived.Test.YtdcdbdlleojaaaaPReplanKeptx6
import Derived.Test.YtdcdbdlleojaaaaPReplanKeptx7
import Derived.Test.YtdcdbdlleojaaaaLim
namespace Go.Proofs.Ytdcdbdlleojaaaa.FReplanKept
open Go.RowKit Go.Proofs.Ytdcdbdlleojaaaa.PReplanKept Go.Proofs.YtdcdbdlleojaaaaW.PrintWords Go.Proofs.YtdcdbdlleojaaaaW.PrintLast Go.Proofs.YtdcdbdlleojaaaaW.PrintMore Go.Proofs.Ytdcdbdlleojaaaa.Lim
set_option linter.unusedVariables false
set_option linter.unusedSimpArgs false
set_option maxRecDepth 100000
noncomputable def replan_regular.L0 (x11 : List Int) (x12 : Int) (x13 : Int) : Option (Bool) := lim (fun k => replan_regular.l0 k x11 x12 x13)
theorem replan_regular.L0_lim (x11 : List Int) (x12 : Int) (x13 : Int) : lim (fun k => replan_regular.l0 k x11 x12 x13) = replan_regular.L0 x11 x12 x13 := rfl
theorem replan_regular.L0_mono (x11 : List Int) (x12 : Int) (x13 : Int) : Mono (fun k => replan_regular.l0 k x11 x12 x13) := fun k => (replan_regular.mono_l k) x11 x12 x13
noncomputable def replan_regular.F (a0_0 : Int) (a0_1 : Int) (a0_2 : Int) (a0_3 : Int) : Option (Bool) := lim (fun k => replan_regular.f k a0_0 a0_1 a0_2 a0_3)
theorem replan_regular.F_lim (a0_0 : Int) (a0_1 : Int) (a0_2 : Int) (a0_3 : Int) : lim (fun k => replan_regular.f k a0_0 a0_1 a0_2 a0_3) = replan_regular.F a0_0 a0_1 a0_2 a0_3 := rfl
theorem replan_regular.F_mono (a0_0 : Int) (a0_1 : Int) (a0_2 : Int) (a0_3 : Int) : Mono (fun k => replan_regular.f k a0_0 a0_1 a0_2 a0_3) := fun k => replan_regular.mono a0_0 a0_1 a0_2 a0_3 k
theorem replan_regular.L0_eq (x11 : List Int) (x12 : Int) (x13 : Int) : replan_regular.L0 x11 x12 x13 = if x13 < x12 then (if 0 ≤ x13 then (if x13 < (x11.length : Int) then (if (rd x11 x13) < 0 then (some false) else (if (rd x11 x13) > 64 then (some false) else (replan_regular.L0 x11 x12 (wrap64 (x13 + 1))))) else (none)) else (none)) else (some true) := by
  refine Eq.trans (lim_step (g := fun k => replan_regular.l0 k x11 x12 x13) (f := fun k => if x13 < x12 then (if 0 ≤ x13 then (if x13 < (x11.length : Int) then (if (rd x11 x13) < 0 then (some false) else (if (rd x11 x13) > 64 then (some false) else (replan_regular.l0 k x11 x12 (wrap64 (x13 + 1))))) else (none)) else (none)) else (some true)) (fun k => by first | rfl | rw [replan_regular.l0])) ?_
  simp only [lim_ite, lim_bind, lim_const, mono_const, replan_regular.L0_lim, replan_regular.L0_mono]
theorem replan_regular.F_eq (a0_0 : Int) (a0_1 : Int) (a0_2 : Int) (a0_3 : Int) : replan_regular.F a0_0 a0_1 a0_2 a0_3 = (some (([a0_1, a0_2, a0_3] : List Int) : List Int)).bind fun y102 => (replan_regular.L0 y102 (y102.length : Int) 0) := by
  refine (rfl : _ = lim (fun k => (some (([a0_1, a0_2, a0_3] : List Int) : List Int)).bind fun y102 => (replan_regular.l0 k y102 (y102.length : Int) 0))).trans ?_
  simp only [lim_ite, lim_bind, lim_const, mono_const, replan_regular.L0_lim, replan_regular.L0_mono]
noncomputable def replan_Kept.L0 (x0 : List (S33)) (x1 : Int) (x7 : List (S33)) (x8 : Int) (x9 : Int) : Option (Int) := lim (fun k => replan_Kept.l0 k x0 x1 x7 x8 x9)
theorem replan_Kept.L0_lim (x0 : List (S33)) (x1 : Int) (x7 : List (S33)) (x8 : Int) (x9 : Int) : lim (fun k => replan_Kept.l0 k x0 x1 x7 x8 x9) = replan_Kept.L0 x0 x1 x7 x8 x9 := rfl
theorem replan_Kept.L0_mono (x0 : List (S33)) (x1 : Int) (x7 : List (S33)) (x8 : Int) (x9 : Int) : Mono (fun k => replan_Kept.l0 k x0 x1 x7 x8 x9) := fun k => (replan_Kept.mono_l k) x0 x1 x7 x8 x9
noncomputable def replan_Kept.F (l0 : List (S33)) (a1 : Int) : Option (Int) := lim (fun k => replan_Kept.f k l0 a1)
theorem replan_Kept.F_lim (l0 : List (S33)) (a1 : Int) : lim (fun k => replan_Kept.f k l0 a1) = replan_Kept.F l0 a1 := rfl
theorem replan_Kept.F_mono (l0 : List (S33)) (a1 : Int) : Mono (fun k => replan_Kept.f k l0 a1) := fun k => replan_Kept.mono l0 a1 k
theorem replan_Kept.L0_eq (x0 : List (S33)) (x1 : Int) (x7 : List (S33)) (x8 : Int) (x9 : Int) : replan_Kept.L0 x0 x1 x7 x8 x9 = if x9 < x8 then (if 0 ≤ x9 then (if x9 < (x7.length : Int) then ((replan_regular.F ((rd_T33 x7 x9).f0) ((rd_T33 x7 x9).f1) ((rd_T33 x7 x9).f2) ((rd_T33 x7 x9).f3)).bind fun t108 => (if t108 = true then (if (wrap64 (((rd_T33 x7 x9).f2) + ((rd_T33 x7 x9).f3))) > x1 then (some x9) else (replan_Kept.L0 x0 x1 x7 x8 (wrap64 (x9 + 1)))) else (some x9))) else (none)) else (none)) else (some (x0.length : Int)) := by
  refine Eq.trans (lim_step (g := fun k => replan_Kept.l0 k x0 x1 x7 x8 x9) (f := fun k => if x9 < x8 then (if 0 ≤ x9 then (if x9 < (x7.length : Int) then ((replan_regular.f k ((rd_T33 x7 x9).f0) ((rd_T33 x7 x9).f1) ((rd_T33 x7 x9).f2) ((rd_T33 x7 x9).f3)).bind fun t108 => (if t108 = true then (if (wrap64 (((rd_T33 x7 x9).f2) + ((rd_T33 x7 x9).f3))) > x1 then (some x9) else (replan_Kept.l0 k x0 x1 x7 x8 (wrap64 (x9 + 1)))) else (some x9))) else (none)) else (none)) else (some (x0.length : Int))) (fun k => by first | rfl | rw [replan_Kept.l0])) ?_
  simp only [lim_ite, lim_bind, lim_const, mono_const, replan_regular.F_lim, replan_regular.F_mono, replan_Kept.L0_lim, replan_Kept.L0_mono]
theorem replan_Kept.F_eq (l0 : List (S33)) (a1 : Int) : replan_Kept.F l0 a1 = replan_Kept.L0 l0 a1 l0 (l0.length : Int) 0 := by
  refine (rfl : _ = lim (fun k => replan_Kept.l0 k l0 a1 l0 (l0.length : Int) 0)).trans ?_
  simp only [lim_ite, lim_bind, lim_const, mono_const, replan_Kept.L0_lim, replan_Kept.L0_mono]
noncomputable def replan_UnderWay.F (l0 : List (S33)) (a1 : Int) : Option (Int × Int × Int × Int × Bool) := lim (fun k => replan_UnderWay.f k l0 a1)
theorem replan_UnderWay.F_lim (l0 : List (S33)) (a1 : Int) : lim (fun k => replan_UnderWay.f k l0 a1) = replan_UnderWay.F l0 a1 := rfl
theorem replan_UnderWay.F_mono (l0 : List (S33)) (a1 : Int) : Mono (fun k => replan_UnderWay.f k l0 a1) := fun k => replan_UnderWay.mono l0 a1 k
theorem replan_UnderWay.F_eq (l0 : List (S33)) (a1 : Int) : replan_UnderWay.F l0 a1 = (replan_Kept.F l0 a1).bind fun t110 => (if t110 = (l0.length : Int) then (some (0, 0, 0, 0, false)) else (if 0 ≤ t110 then (if t110 < (l0.length : Int) then ((replan_regular.F ((rd_T33 l0 t110).f0) ((rd_T33 l0 t110).f1) ((rd_T33 l0 t110).f2) ((rd_T33 l0 t110).f3)).bind fun t112 => (if t112 = true then (if (wrap64 (((rd_T33 l0 t110).f2) - ((rd_T33 l0 t110).f1))) ≥ a1 then (some (0, 0, 0, 0, false)) else (some ((rd_T33 l0 t110).f0, (rd_T33 l0 t110).f1, (rd_T33 l0 t110).f2, (rd_T33 l0 t110).f3, true))) else (some (0, 0, 0, 0, false)))) else (none)) else (none))) := by
  refine (rfl : _ = lim (fun k => (replan_Kept.f k l0 a1).bind fun t110 => (if t110 = (l0.length : Int) then (some (0, 0, 0, 0, false)) else (if 0 ≤ t110 then (if t110 < (l0.length : Int) then ((replan_regular.f k ((rd_T33 l0 t110).f0) ((rd_T33 l0 t110).f1) ((rd_T33 l0 t110).f2) ((rd_T33 l0 t110).f3)).bind fun t112 => (if t112 = true then (if (wrap64 (((rd_T33 l0 t110).f2) - ((rd_T33 l0 t110).f1))) ≥ a1 then (some (0, 0, 0, 0, false)) else (some ((rd_T33 l0 t110).f0, (rd_T33 l0 t110).f1, (rd_T33 l0 t110).f2, (rd_T33 l0 t110).f3, true))) else (some (0, 0, 0, 0, false)))) else (none)) else (none))))).trans ?_
  simp only [lim_ite, lim_bind, lim_const, mono_const, replan_Kept.F_lim, replan_Kept.F_mono, replan_regular.F_lim, replan_regular.F_mono]
noncomputable def spylaw2_replans.F  : Option (Bool) := lim (fun k => spylaw2_replans.f k )
theorem spylaw2_replans.F_lim  : lim (fun k => spylaw2_replans.f k ) = spylaw2_replans.F  := rfl
theorem spylaw2_replans.F_mono  : Mono (fun k => spylaw2_replans.f k ) := fun k => spylaw2_replans.mono  k
theorem spylaw2_replans.F_eq  : spylaw2_replans.F  = (some (([(⟨1, 0, 0, 2⟩ : S33), (⟨2, 1, 3, 2⟩ : S33)] : List (S33)) : List (S33))).bind fun y116 => ((replan_UnderWay.F y116 4).bind fun bt119 => ((replan_Kept.F y116 4).bind fun t125 => (if t125 = 1 then (if bt119.2.2.2.2 = true then (some (bt119.1 == 2)) else (some false)) else (some false)))) := by
  refine (rfl : _ = lim (fun k => (some (([(⟨1, 0, 0, 2⟩ : S33), (⟨2, 1, 3, 2⟩ : S33)] : List (S33)) : List (S33))).bind fun y116 => ((replan_UnderWay.f k y116 4).bind fun bt119 => ((replan_Kept.f k y116 4).bind fun t125 => (if t125 = 1 then (if bt119.2.2.2.2 = true then (some (bt119.1 == 2)) else (some false)) else (some false)))))).trans ?_
  simp only [lim_ite, lim_bind, lim_const, mono_const, replan_UnderWay.F_lim, replan_UnderWay.F_mono, replan_Kept.F_lim, replan_Kept.F_mono]
noncomputable def spyref2_KeptOf.L0 (x0 : List (S33)) (x1 : Int) (x5 : Int) : Option (Int) := lim (fun k => spyref2_KeptOf.l0 k x0 x1 x5)
theorem spyref2_KeptOf.L0_lim (x0 : List (S33)) (x1 : Int) (x5 : Int) : lim (fun k => spyref2_KeptOf.l0 k x0 x1 x5) = spyref2_KeptOf.L0 x0 x1 x5 := rfl
theorem spyref2_KeptOf.L0_mono (x0 : List (S33)) (x1 : Int) (x5 : Int) : Mono (fun k => spyref2_KeptOf.l0 k x0 x1 x5) := fun k => (spyref2_KeptOf.mono_l k) x0 x1 x5
noncomputable def spyref2_KeptOf.F (l0 : List (S33)) (a1 : Int) : Option (Int) := lim (fun k => spyref2_KeptOf.f k l0 a1)
theorem spyref2_KeptOf.F_lim (l0 : List (S33)) (a1 : Int) : lim (fun k => spyref2_KeptOf.f k l0 a1) = spyref2_KeptOf.F l0 a1 := rfl
theorem spyref2_KeptOf.F_mono (l0 : List (S33)) (a1 : Int) : Mono (fun k => spyref2_KeptOf.f k l0 a1) := fun k => spyref2_KeptOf.mono l0 a1 k
theorem spyref2_KeptOf.L0_eq (x0 : List (S33)) (x1 : Int) (x5 : Int) : spyref2_KeptOf.L0 x0 x1 x5 = if x5 < (x0.length : Int) then (if 0 ≤ x5 then ((spyref2_RegularVisit.f ((rd_T33 x0 x5).f0) ((rd_T33 x0 x5).f1) ((rd_T33 x0 x5).f2) ((rd_T33 x0 x5).f3)).bind fun t131 => (if t131 = true then (if (wrap64 (((rd_T33 x0 x5).f2) + ((rd_T33 x0 x5).f3))) ≤ x1 then (spyref2_KeptOf.L0 x0 x1 (wrap64 (x5 + 1))) else (some x5)) else (some x5))) else (none)) else (some x5) := by
  refine Eq.trans (lim_step (g := fun k => spyref2_KeptOf.l0 k x0 x1 x5) (f := fun k => if x5 < (x0.length : Int) then (if 0 ≤ x5 then ((spyref2_RegularVisit.f ((rd_T33 x0 x5).f0) ((rd_T33 x0 x5).f1) ((rd_T33 x0 x5).f2) ((rd_T33 x0 x5).f3)).bind fun t131 => (if t131 = true then (if (wrap64 (((rd_T33 x0 x5).f2) + ((rd_T33 x0 x5).f3))) ≤ x1 then (spyref2_KeptOf.l0 k x0 x1 (wrap64 (x5 + 1))) else (some x5)) else (some x5))) else (none)) else (some x5)) (fun k => by first | rfl | rw [spyref2_KeptOf.l0])) ?_
  simp only [lim_ite, lim_bind, lim_const, mono_const, spyref2_KeptOf.L0_lim, spyref2_KeptOf.L0_mono]
theorem spyref2_KeptOf.F_eq (l0 : List (S33)) (a1 : Int) : spyref2_KeptOf.F l0 a1 = spyref2_KeptOf.L0 l0 a1 0 := by
  refine (rfl : _ = lim (fun k => spyref2_KeptOf.l0 k l0 a1 0)).trans ?_
  simp only [lim_ite, lim_bind, lim_const, mono_const, spyref2_KeptOf.L0_lim, spyref2_KeptOf.L0_mono]
noncomputable def spyref2_UnderWayOf.F (l0 : List (S33)) (a1 : Int) : Option (Int × Int × Int × Int × Bool) := lim (fun k => spyref2_UnderWayOf.f k l0 a1)
theorem spyref2_UnderWayOf.F_lim (l0 : List (S33)) (a1 : Int) : lim (fun k => spyref2_UnderWayOf.f k l0 a1) = spyref2_UnderWayOf.F l0 a1 := rfl
theorem spyref2_UnderWayOf.F_mono (l0 : List (S33)) (a1 : Int) : Mono (fun k => spyref2_UnderWayOf.f k l0 a1) := fun k => spyref2_UnderWayOf.mono l0 a1 k
theorem spyref2_UnderWayOf.F_eq (l0 : List (S33)) (a1 : Int) : spyref2_UnderWayOf.F l0 a1 = (spyref2_KeptOf.F l0 a1).bind fun t135 => (if t135 < (l0.length : Int) then (if 0 ≤ t135 then ((spyref2_RegularVisit.f ((rd_T33 l0 t135).f0) ((rd_T33 l0 t135).f1) ((rd_T33 l0 t135).f2) ((rd_T33 l0 t135).f3)).bind fun t137 => (if t137 = true then (if (wrap64 (((rd_T33 l0 t135).f2) - ((rd_T33 l0 t135).f1))) < a1 then (some ((rd_T33 l0 t135).f0, (rd_T33 l0 t135).f1, (rd_T33 l0 t135).f2, (rd_T33 l0 t135).f3, true)) else (some (0, 0, 0, 0, false))) else (some (0, 0, 0, 0, false)))) else (none)) else (some (0, 0, 0, 0, false))) := by
  refine (rfl : _ = lim (fun k => (spyref2_KeptOf.f k l0 a1).bind fun t135 => (if t135 < (l0.length : Int) then (if 0 ≤ t135 then ((spyref2_RegularVisit.f ((rd_T33 l0 t135).f0) ((rd_T33 l0 t135).f1) ((rd_T33 l0 t135).f2) ((rd_T33 l0 t135).f3)).bind fun t137 => (if t137 = true then (if (wrap64 (((rd_T33 l0 t135).f2) - ((rd_T33 l0 t135).f1))) < a1 then (some ((rd_T33 l0 t135).f0, (rd_T33 l0 t135).f1, (rd_T33 l0 t135).f2, (rd_T33 l0 t135).f3, true)) else (some (0, 0, 0, 0, false))) else (some (0, 0, 0, 0, false)))) else (none)) else (some (0, 0, 0, 0, false))))).trans ?_
  simp only [lim_ite, lim_bind, lim_const, mono_const, spyref2_KeptOf.F_lim, spyref2_KeptOf.F_mono]
noncomputable def spylaw2_ReplanKept.F (l0 : List (S33)) (a1 : Int) : Option (Bool) := lim (fun k => spylaw2_ReplanKept.f k l0 a1)
theorem spylaw2_ReplanKept.F_lim (l0 : List (S33)) (a1 : Int) : lim (fun k => spylaw2_ReplanKept.f k l0 a1) = spylaw2_ReplanKept.F l0 a1 := rfl
theorem spylaw2_ReplanKept.F_mono (l0 : List (S33)) (a1 : Int) : Mono (fun k => spylaw2_ReplanKept.f k l0 a1) := fun k => spylaw2_ReplanKept.mono l0 a1 k
theorem spylaw2_ReplanKept.F_eq (l0 : List (S33)) (a1 : Int) : spylaw2_ReplanKept.F l0 a1 = (spylaw2_replans.F).bind fun t141 => (if t141 = true then ((replan_UnderWay.F l0 a1).bind fun bt142 => ((spyref2_UnderWayOf.F l0 a1).bind fun bt148 => ((replan_Kept.F l0 a1).bind fun t154 => ((spyref2_KeptOf.F l0 a1).bind fun t155 => (if t154 = t155 then (if (bt142.1 == bt148.1 && (bt142.2.1 == bt148.2.1 && (bt142.2.2.1 == bt148.2.2.1 && (bt142.2.2.2.1 == bt148.2.2.2.1)))) = true then (some (bt142.2.2.2.2 == bt148.2.2.2.2)) else (some false)) else (some false)))))) else (some false)) := by
  refine (rfl : _ = lim (fun k => (spylaw2_replans.f k).bind fun t141 => (if t141 = true then ((replan_UnderWay.f k l0 a1).bind fun bt142 => ((spyref2_UnderWayOf.f k l0 a1).bind fun bt148 => ((replan_Kept.f k l0 a1).bind fun t154 => ((spyref2_KeptOf.f k l0 a1).bind fun t155 => (if t154 = t155 then (if (bt142.1 == bt148.1 && (bt142.2.1 == bt148.2.1 && (bt142.2.2.1 == bt148.2.2.1 && (bt142.2.2.2.1 == bt148.2.2.2.1)))) = true then (some (bt142.2.2.2.2 == bt148.2.2.2.2)) else (some false)) else (some false)))))) else (some false)))).trans ?_
  simp only [lim_ite, lim_bind, lim_const, mono_const, spylaw2_replans.F_lim, spylaw2_replans.F_mono, replan_UnderWay.F_lim, replan_UnderWay.F_mono, spyref2_UnderWayOf.F_lim, spyref2_UnderWayOf.F_mono, replan_Kept.F_lim, replan_Kept.F_mono, spyref2_KeptOf.F_lim, spyref2_KeptOf.F_mono]
end Go.Proofs.Ytdcdbdlleojaaaa.FReplanKept
