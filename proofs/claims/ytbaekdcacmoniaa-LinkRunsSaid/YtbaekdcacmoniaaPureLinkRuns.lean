/- LinkRuns: the pure statement, proved. -/
import Derived.Test.YtbaekdcacmoniaaEA0
import Derived.Test.YtbaekdcacmoniaaEA1
import Derived.Test.YtbaekdcacmoniaaEA2
import Derived.Test.YtbaekdcacmoniaaPl
import Derived.Test.YtbaekdcacmoniaaLemBus
import Derived.Test.YtbaekdcacmoniaaLemCrc
import Derived.Test.YtbaekdcacmoniaaLemFr
import Derived.Test.YtbaekdcacmoniaaLemLine
import Derived.Test.YtbaekdcacmoniaaLemRun
import Derived.Test.YtbaekdcacmoniaaLemSim
import Derived.Test.YtbaekdcacmoniaaLemAll
import Derived.Test.YtbaekdcacmoniaaLemOk
namespace Go.Proofs.Ytbaekdcacmoniaa.Pure
set_option linter.unusedVariables false
set_option linter.unusedSimpArgs false
open Go Go.RowKit Go.Proofs.Ytbaekdcacmoniaa.Pv Go.Proofs.Ytbaekdcacmoniaa.Pl Go.Proofs.Ytbaekdcacmoniaa.EA

theorem eqi_p4 (l : List Int) (hl : l.length ≤ 1000000) : ∀ (u k : Nat), l.length - k = u → k ≤ l.length → slices_Equal_int_int.p4 l l l.length k = some true := by
  intro u
  induction u with
  | zero => intro k hu hk; rw [slices_Equal_int_int.p4_eq, if_neg (by rw [dt]; omega)]
  | succ u ih =>
    intro k hu hk
    rw [slices_Equal_int_int.p4_eq, if_pos (by rw [dt]; omega), if_pos (by omega), if_pos (by omega), if_pos (by omega), if_pos (by omega), if_neg (by simp), wi_nat (by omega)]
    exact ih (k + 1) (by omega) (by omega)
theorem eqi_same (l : List Int) (hl : l.length ≤ 1000000) : slices_Equal_int_int l l = some true := by
  rw [slices_Equal_int_int_eq, if_neg (by simp)]
  exact eqi_p4 l hl _ 0 rfl (by omega)
theorem eqx_p4 (l : List (Int × Int)) (hl : l.length ≤ 10000000) : ∀ (u k : Nat), l.length - k = u → k ≤ l.length → slices_Equal_link_Exec.p4 l l l.length k = some true := by
  intro u
  induction u with
  | zero => intro k hu hk; rw [slices_Equal_link_Exec.p4_eq, if_neg (by rw [dt]; omega)]
  | succ u ih =>
    intro k hu hk
    rw [slices_Equal_link_Exec.p4_eq, if_pos (by rw [dt]; omega), if_pos (by omega), if_pos (by omega), if_pos (by omega), if_pos (by omega), if_neg (by simp), wi_nat (by omega)]
    exact ih (k + 1) (by omega) (by omega)
theorem eqx_same (l : List (Int × Int)) (hl : l.length ≤ 10000000) : slices_Equal_link_Exec l l = some true := by
  rw [slices_Equal_link_Exec_eq, if_neg (by simp)]
  exact eqx_p4 l hl _ 0 rfl (by omega)

theorem LinkRuns : ∀ (x0 : List (Int × Int × Int)) (x1 : List (Bool × Int × Int × List Int)) (x2 : List (Bool × Int × Int × List Int)) (x3 : Int), goodT Try.prog (.list false 41 (.prod (.int .i64) (.prod (.int .i64) (.int .i64)))) x0 → goodT Try.prog (.list false 62 (.prod .bool (.prod (.int .i64) (.prod (.int .i64) (.list false 3 (.int .i64)))))) x1 → goodT Try.prog (.list false 62 (.prod .bool (.prod (.int .i64) (.prod (.int .i64) (.list false 3 (.int .i64)))))) x2 → goodT Try.prog (.int .i64) x3 → spylaw2_LinkRuns x0 x1 x2 x3 = some true := by
  intro l th bk steps hl hth hbk hs
  obtain ⟨g, g1, g2, _⟩ := line_same l th bk
  rw [spylaw2_LinkRuns_eq, links_ok, bind_some_, if_neg (by decide), link_Run_eq, g1, bind_some_, g2]
  by_cases hg : g = 0
  case neg =>
    have nz : (g != 0) = true := by rw [ne_t]; exact hg
    rw [if_pos nz, bind_some_, bind_some_, if_neg (show ¬ (g == 0) = true by rw [eq_t]; exact hg), spylaw2_LinkRuns.p7_eq, if_pos nz, if_pos (show (g == g) = true by simp)]
    rfl
  subst hg
  obtain ⟨c1, c2, c3, c4⟩ := check_facts g1
  have big : ∀ (fs : List Fate_), goodT Try.prog (.list false 62 (.prod .bool (.prod (.int .i64) (.prod (.int .i64) (.list false 3 (.int .i64)))))) fs → (∀ f, f ∈ fs → link_CheckFate f = some 0) → ∀ f, f ∈ fs → FOk f := by
    intro fs h k f hf
    have h1 := (h.2.2 f hf).2.2.2.2.2
    exact fate_facts (fun i hi => (wf64 (h1 i hi)).2) (k f hf)
  have f1 := big th hth c3
  have f2 := big bk hbk c4
  rw [if_neg (show ¬ ((0 : Int) != 0) = true by decide)]
  by_cases r : 0 ≤ steps ∧ steps ≤ 2000
  case neg =>
    have run : (if decide (steps < 0) = false then (if decide (steps > 2000) = true then some ((([], [], [], 0, 0) : Log_), (4 : Int)) else none) else some (([], [], [], 0, 0), 4)) = some (([], [], [], 0, 0), 4) := by
      by_cases q : steps < 0
      · rw [if_neg (by rw [df]; exact fun z => z q)]
      · rw [if_pos (by rw [df]; exact q), if_pos (by rw [dt]; omega)]
    have e : ∀ x : Option (Log_ × Int), (if decide (steps < 0) = false then (if decide (steps > 2000) = true then some ((([], [], [], 0, 0) : Log_), (4 : Int)) else x) else some (([], [], [], 0, 0), 4)) = some (([], [], [], 0, 0), 4) := by
      intro x
      by_cases q : steps < 0
      · rw [if_neg (by rw [df]; exact fun z => z q)]
      · rw [if_pos (by rw [df]; exact q), if_pos (by rw [dt]; omega)]
    rw [e, bind_some_, bind_some_, if_pos (show ((0 : Int) == 0) = true by decide), in_val, bind_some_, if_pos (show (!decide (0 ≤ steps ∧ steps ≤ 2000)) = true by rw [not_t, df]; exact r), spylaw2_LinkRuns.p7_eq]
    rfl
  rw [if_pos (show decide (steps < 0) = false by rw [df]; omega), if_neg (show ¬ decide (steps > 2000) = true by rw [dt]; omega), if_pos rfl, if_pos (by omega), if_pos (by omega), if_pos rfl, if_pos (by omega), if_pos (by omega)]
  obtain ⟨N, hN⟩ : ∃ N : Nat, steps = (N : Int) := ⟨steps.toNat, by omega⟩
  subst hN
  have w0 : ∀ t : Int, WayR t [] [] := fun t => .nil
  obtain ⟨EX, RP, AR, S, H, y1, y2, y3, y4, y5⟩ := run_all l c1 c2 th bk f1 f2 N (by omega) ([], [], [], 0, 0) ([], [], [], 0, 0) [] 0 0 N 0 0 false 0 0 0 0 (List.replicate l.length 0) (List.replicate l.length 0) [] [] [] [] [] (by omega) (w0 _) (w0 _) (fun m h => by cases h) (fun m h => by cases h) (by omega) (by omega) (by simp) (by simp) (by omega) (by omega) (by omega) (by omega) (by simp) (by simp) (by simp)
  rw [show ((0 : Nat) : Int) = 0 from rfl] at y1 y2
  rw [y1, bind_some_, bind_some_, if_pos (show ((0 : Int) == 0) = true by decide), in_val, bind_some_, if_neg (show ¬ (!decide (0 ≤ (N : Int) ∧ (N : Int) ≤ 2000)) = true by rw [not_t, df]; exact fun z => z r), spylaw2_LinkRuns.p7_eq, if_neg (show ¬ ((0 : Int) != 0) = true by decide), spylaw2_played_eq, if_pos rfl, if_pos (by omega), if_pos (by omega), if_pos rfl, if_pos (by omega), if_pos (by omega), y2, bind_some_, if_pos (show ((0 : Int) == 0) = true by decide)]
  simp only
  rw [eqx_same _ y3, bind_some_, if_pos rfl, eqi_same _ (by omega), bind_some_, if_pos rfl, eqi_same _ (by omega), bind_some_, if_pos rfl, if_pos (by simp)]
  simp

end Go.Proofs.Ytbaekdcacmoniaa.Pure
