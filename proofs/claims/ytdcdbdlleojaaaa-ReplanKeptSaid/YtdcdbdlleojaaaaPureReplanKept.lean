/- ReplanKept: the pure statement, proved. -/
import Derived.Test.YtdcdbdlleojaaaaStReplanKept
import Derived.Test.YtdcdbdlleojaaaaFReplanKept
import Derived.Test.YtdcdbdlleojaaaaPl
namespace Go.Proofs.Ytdcdbdlleojaaaa.Pure
open Go.RowKit Go.Proofs.Ytdcdbdlleojaaaa.PReplanKept Go.Proofs.Ytdcdbdlleojaaaa.FReplanKept Go.Proofs.Ytdcdbdlleojaaaa.StReplanKept Go.Proofs.YtdcdbdlleojaaaaW.PrintWords Go.Proofs.YtdcdbdlleojaaaaW.PrintLast Go.Proofs.Ytdcdbdlleojaaaa.Lim Go.Proofs.Ytdcdbdlleojaaaa.Pl

def reg (a1 a2 a3 : Int) : Bool := decide (0 ≤ a1 ∧ a1 ≤ 64 ∧ 0 ≤ a2 ∧ a2 ≤ 64 ∧ 0 ≤ a3 ∧ a3 ≤ 64)
theorem regular_eq (a0 a1 a2 a3 : Int) : replan_regular.F a0 a1 a2 a3 = some (reg a1 a2 a3) := by
  have e3 : replan_regular.L0 [a1, a2, a3] 3 3 = some true := by
    rw [replan_regular.L0_eq, if_neg (by omega)]
  have e2 : replan_regular.L0 [a1, a2, a3] 3 2 = if a3 < 0 then some false else if a3 > 64 then some false else some true := by
    rw [replan_regular.L0_eq, if_pos (by omega), if_pos (by omega), if_pos (by simp), ← e3, show rd [a1, a2, a3] 2 = a3 from rfl, show wrap64 (2 + 1) = 3 by decide +kernel]
  have e1 : replan_regular.L0 [a1, a2, a3] 3 1 = if a2 < 0 then some false else if a2 > 64 then some false else replan_regular.L0 [a1, a2, a3] 3 2 := by
    rw [replan_regular.L0_eq, if_pos (by omega), if_pos (by omega), if_pos (by simp), show rd [a1, a2, a3] 1 = a2 from rfl, show wrap64 (1 + 1) = 2 by decide +kernel]
  have e0 : replan_regular.L0 [a1, a2, a3] 3 0 = if a1 < 0 then some false else if a1 > 64 then some false else replan_regular.L0 [a1, a2, a3] 3 1 := by
    rw [replan_regular.L0_eq, if_pos (by omega), if_pos (by omega), if_pos (by simp), show rd [a1, a2, a3] 0 = a1 from rfl, show wrap64 (0 + 1) = 1 by decide +kernel]
  rw [replan_regular.F_eq, Option.bind_some]
  show replan_regular.L0 [a1, a2, a3] 3 0 = _
  rw [e0, e1, e2]
  unfold reg
  repeat' split
  all_goals (congr 1; first | (symm; apply decide_eq_true; omega) | (symm; apply decide_eq_false; omega))
theorem regular_ref (a0 a1 a2 a3 : Int) : spyref2_RegularVisit.f a0 a1 a2 a3 = some (reg a1 a2 a3) := by
  unfold spyref2_RegularVisit.f spyref2_In.f reg
  by_cases h1 : 0 ≤ a1 <;> by_cases h2 : a1 ≤ 64 <;> by_cases h3 : 0 ≤ a2 <;> by_cases h4 : a2 ≤ 64 <;> by_cases h5 : 0 ≤ a3 <;> by_cases h6 : a3 ≤ 64 <;> simp [h1, h2, h3, h4, h5, h6]
theorem reg_true {a1 a2 a3 : Int} (h : reg a1 a2 a3 = true) : 0 ≤ a1 ∧ a1 ≤ 64 ∧ 0 ≤ a2 ∧ a2 ≤ 64 ∧ 0 ≤ a3 ∧ a3 ≤ 64 := of_decide_eq_true h

theorem kept_same (l : List S33) (at_ : Int) (hl : l.length < 9223372036854775807) : ∀ (d i : Nat), i + d = l.length →
    ∃ r : Nat, r ≤ l.length ∧ replan_Kept.L0 l at_ l (l.length : Int) (i : Int) = some (r : Int) ∧ spyref2_KeptOf.L0 l at_ (i : Int) = some (r : Int)
  | 0, i, h => by
    refine ⟨i, by omega, ?_, ?_⟩
    · rw [replan_Kept.L0_eq, if_neg (by omega)]
      congr 1
      omega
    · rw [spyref2_KeptOf.L0_eq, if_neg (by omega)]
  | d + 1, i, h => by
    have h1 : i < l.length := by omega
    have e : rd_T33 l (i : Int) = l[i] := getD_nat _ _ _ h1
    obtain ⟨r, hr, ih1, ih2⟩ := kept_same l at_ hl d (i + 1) (by omega)
    have a1 : (i : Int) < (l.length : Int) := by omega
    have a2 : 0 ≤ (i : Int) := by omega
    rw [replan_Kept.L0_eq, spyref2_KeptOf.L0_eq]
    simp only [if_pos a1, if_pos a2, wrap_nat i (by omega), e, regular_eq, regular_ref, ih1, ih2, Option.bind_some]
    by_cases c : reg l[i].f1 l[i].f2 l[i].f3 = true
    · have b := reg_true c
      rw [if_pos c, if_pos c, wrap_id (by omega) (by omega)]
      by_cases g : l[i].f2 + l[i].f3 ≤ at_
      · exact ⟨r, hr, by rw [if_neg (by omega)], by rw [if_pos g]⟩
      · exact ⟨i, by omega, by rw [if_pos (by omega)], by rw [if_neg g]⟩
    · exact ⟨i, by omega, by rw [if_neg c], by rw [if_neg c]⟩
theorem kept_all (l : List S33) (at_ : Int) (hl : l.length < 9223372036854775807) : ∃ r : Nat, r ≤ l.length ∧ replan_Kept.F l at_ = some (r : Int) ∧ spyref2_KeptOf.F l at_ = some (r : Int) := by
  rw [replan_Kept.F_eq, spyref2_KeptOf.F_eq]
  exact kept_same l at_ hl l.length 0 (by omega)
theorem under_same (l : List S33) (at_ : Int) (hl : l.length < 9223372036854775807) : ∃ r, replan_UnderWay.F l at_ = some r ∧ spyref2_UnderWayOf.F l at_ = some r := by
  obtain ⟨r, hr, h1, h2⟩ := kept_all l at_ hl
  rw [replan_UnderWay.F_eq, spyref2_UnderWayOf.F_eq, h1, h2]
  simp only [Option.bind_some]
  by_cases c : r = l.length
  · exact ⟨_, by rw [if_pos (by omega)], by rw [if_neg (by omega)]⟩
  · have a0 : ¬ (r : Int) = (l.length : Int) := by omega
    have a1 : (r : Int) < (l.length : Int) := by omega
    have a2 : 0 ≤ (r : Int) := by omega
    simp only [if_neg a0, if_pos a1, if_pos a2, regular_eq, regular_ref, Option.bind_some]
    by_cases g : reg (rd_T33 l (r : Int)).f1 (rd_T33 l (r : Int)).f2 (rd_T33 l (r : Int)).f3 = true
    · simp only [if_pos g]
      by_cases q : wrap64 ((rd_T33 l (r : Int)).f2 - (rd_T33 l (r : Int)).f1) < at_
      · have q' : ¬ wrap64 ((rd_T33 l (r : Int)).f2 - (rd_T33 l (r : Int)).f1) ≥ at_ := by omega
        simp only [if_pos q, if_neg q']
        exact ⟨_, rfl, rfl⟩
      · have q' : wrap64 ((rd_T33 l (r : Int)).f2 - (rd_T33 l (r : Int)).f1) ≥ at_ := by omega
        simp only [if_neg q, if_pos q']
        exact ⟨_, rfl, rfl⟩
    · simp only [if_neg g]
      exact ⟨_, rfl, rfl⟩
theorem replans_true : spylaw2_replans.F = some true := run_at spylaw2_replans.F_mono 20 (by decide +kernel)
theorem ReplanKept : PureS := by
  intro l at_ hl _
  have hm : maxLen = 9223372036854775807 := rfl
  obtain ⟨_, h2, _⟩ := hl
  have h3 : l.length < 9223372036854775807 := by omega
  refine rounds (g := fun k => spylaw2_ReplanKept.f k l at_) ?_
  show spylaw2_ReplanKept.F l at_ = some true
  obtain ⟨r, _, k1, k2⟩ := kept_all l at_ h3
  obtain ⟨u, u1, u2⟩ := under_same l at_ h3
  rw [spylaw2_ReplanKept.F_eq, replans_true, k1, k2, u1, u2]
  simp

end Go.Proofs.Ytdcdbdlleojaaaa.Pure
