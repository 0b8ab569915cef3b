/- PropChecks: the pure statement, proved. -/
import Derived.Test.YtliifndlmhlkfaaDoorEA0
import Derived.Test.YtliifndlmhlkfaaDoorEA1
import Derived.Test.YtliifndlmhlkfaaDoorPl
import Derived.Test.YtliifndlmhlkfaaDoorLemA
namespace Go.Proofs.YtliifndlmhlkfaaDoor.Pure
set_option linter.unusedVariables false
set_option linter.unusedSimpArgs false
open Go Go.RowKit Go.Proofs.YtliifndlmhlkfaaDoor.Pv Go.Proofs.YtliifndlmhlkfaaDoor.Pl Go.Proofs.YtliifndlmhlkfaaDoor.EA

theorem props_true : spylaw2_props = some true := callL_some.2 ⟨200, by kernel_rfl⟩
abbrev req0 : Req := (0, 0, (0, 0, 0), 0, 0, 0, 0, 0, 0, 0, 0)
theorem find_run (l : List Req) (id : Int) (b : Req) (hl : l.length < 9223372036854775807) : ∀ (u k : Nat), l.length - k = u → k ≤ l.length →
    (prop_Find.p2 id l l.length k b = some (req0, false) ∧ spyref2_IndexOf.p2 id l l.length k = some (-1)) ∨ ∃ j, ∃ h : j < l.length, prop_Find.p2 id l l.length k b = some (l[j], true) ∧ spyref2_IndexOf.p2 id l l.length k = some (j : Int) := by
  intro u
  induction u with
  | zero =>
    intro k h hk
    rw [spyref2_IndexOf.p2_eq, prop_Find.p2_eq, if_neg (by rw [dt]; omega), if_neg (by rw [dt]; omega)]
    exact .inl ⟨rfl, rfl⟩
  | succ u ih =>
    intro k h hk
    have hlt : k < l.length := by omega
    have a : decide ((k : Int) < (l.length : Int)) = true := by rw [dt]; omega
    rw [spyref2_IndexOf.p2_eq, prop_Find.p2_eq]
    simp only [if_pos a, if_pos (show (0 : Int) ≤ k by omega), if_pos (show (k : Int) < l.length by omega), toNat_nat, getD_nat _ _ hlt, wi_nat (show k < 9223372036854775807 by omega)]
    by_cases c : l[k].1 = id
    · have c' : (l[k].1 == id) = true := by rw [eq_t]; exact c
      rw [if_pos c', if_pos c']
      exact .inr ⟨k, hlt, rfl, rfl⟩
    · have c' : ¬ (l[k].1 == id) = true := by rw [eq_t]; exact c
      rw [if_neg c', if_neg c']
      exact ih (k + 1) (by omega) (by omega)
theorem PropChecks : ∀ (x0 : (List (ByteArray × Int)) × List (Int × Int × (Int × Int × Int) × Int × Int × Int × Int × Int × Int × Int × Int)) (x1 : ByteArray × Int) (x2 : Int × Int × (Int × Int × Int) × Int × Int × Int × Int × Int × Int × Int × Int) (x3 : Int), goodT Tryd.prog (.prod (.list false 27 (.prod .str (.int .i64))) (.list false 32 (.prod (.int .i64) (.prod (.int .i64) (.prod (.prod (.int .i64) (.prod (.int .i64) (.int .i64))) (.prod (.int .i64) (.prod (.int .i64) (.prod (.int .i64) (.prod (.int .i64) (.prod (.int .i64) (.prod (.int .i64) (.prod (.int .i64) (.int .i64))))))))))))) x0 → goodT Tryd.prog (.prod .str (.int .i64)) x1 → goodT Tryd.prog (.prod (.int .i64) (.prod (.int .i64) (.prod (.prod (.int .i64) (.prod (.int .i64) (.int .i64))) (.prod (.int .i64) (.prod (.int .i64) (.prod (.int .i64) (.prod (.int .i64) (.prod (.int .i64) (.prod (.int .i64) (.prod (.int .i64) (.int .i64))))))))))) x2 → goodT Tryd.prog (.int .i64) x3 → spylaw2_PropChecks x0 x1 x2 x3 = some true := by
  intro p q r id hp _ _ _
  have hl : p.2.length < 9223372036854775807 := by
    have h1 := hp.2.2.1
    have e : Tryd.prog.bytesOf 32 = 104 := by kernel_rfl
    rw [e] at h1
    omega
  obtain ⟨e1, n1, n2, _⟩ := name_same q.1
  obtain ⟨e2, c1, c2, _⟩ := proposal_same q
  obtain ⟨e3, r1, r2, _⟩ := request_same r
  obtain ⟨e4, p1, p2, _⟩ := prog_same p
  have key : ∀ w, (∀ s, prop_Slots r = some s → s = w) → spylaw2_PropChecks.p8 id w p r = some true := by
    intro w hw
    have hs : ∃ s, prop_Slots r = some s := by
      rw [prop_Slots_eq, r1, bind_some_]
      split
      · exact ⟨_, rfl⟩
      · exact ⟨_, rfl⟩
    obtain ⟨s, hs⟩ := hs
    obtain rfl := hw s hs
    rw [spylaw2_PropChecks.p8_eq, prop_Find_eq, spyref2_IndexOf_eq, hs]
    rcases find_run p.2 id req0 hl _ 0 rfl (by omega) with ⟨f1, f2⟩ | ⟨j, hj, f1, f2⟩
    · rw [show ((0 : Nat) : Int) = 0 from rfl] at f1 f2
      rw [f1, f2]
      simp [bind_some_]
    · rw [show ((0 : Nat) : Int) = 0 from rfl] at f1 f2
      rw [f1, f2, bind_some_, bind_some_, if_pos (by simp), bind_some_, if_neg (by simp), if_neg (by rw [dt]; omega), if_pos (by omega), if_pos (by omega), toNat_nat, getD_nat _ _ hj]
      simp
  rw [spylaw2_PropChecks_eq, props_true, bind_some_, if_neg (by simp), n1, n2, bind_some_, bind_some_, if_pos (by simp), c1, c2, bind_some_, bind_some_, if_pos (by simp), r1, r2, bind_some_, bind_some_, if_pos (by simp), p1, p2, bind_some_, bind_some_, if_neg (by simp), bind_some_]
  refine ite_eq (fun h => key _ ?_) (fun h => key _ ?_)
  · intro s hs
    rw [prop_Slots_eq, r1, bind_some_, if_neg (by rw [ne_t]; rw [eq_t] at h; simp [h])] at hs
    cases hs
    rw [Int.mul_comm]
  · intro s hs
    rw [prop_Slots_eq, r1, bind_some_, if_pos (by rw [ne_t]; rw [eq_t] at h; exact h)] at hs
    cases hs
    rfl

end Go.Proofs.YtliifndlmhlkfaaDoor.Pure
