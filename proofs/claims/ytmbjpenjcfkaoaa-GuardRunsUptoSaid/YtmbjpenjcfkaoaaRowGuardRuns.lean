/- The law GuardRuns holds: for every input that can be read and is of bulk at most 1048576, the call returns true and leaves the arguments as they were. No other conditions. -/
import Derived.Test.YtmbjpenjcfkaoaaRows
import Derived.Test.YtmbjpenjcfkaoaaPv23
import Derived.Test.YtmbjpenjcfkaoaaPureGuardRuns
import Derived.WalkKit
import Derived.ProofKit
import Derived.OpenShut
import Derived.ShutString
import Derived.ChangeOld
import Derived.Below
import Derived.SizedLaws
import Derived.Carry
import Derived.KernelRfl
import Derived.JoinedCond
import Derived.Deep.CondSized
namespace Go.Proofs.Ytmbjpenjcfkaoaa.guardRuns
open Go.ChangeShapes Go.WideShapes Go.ChangeAt Go.RowKit Go.Proofs.Ytmbjpenjcfkaoaa.Pv Go.Proofs.Ytmbjpenjcfkaoaa.EA
set_option linter.unusedVariables false
set_option linter.unusedSimpArgs false
theorem own : ownKnob Try.prog.godebug = none := by kernel_rfl
theorem laidOut : laidOutB Try.prog = true := by kernel_rfl
theorem okAll : okS Try.prog S = true := by kernel_rfl
theorem one_le {H : Type} (d : DataW H) : 1 ≤ Rows.uptoBulk d := by
  cases d with
  | lit l => cases l <;> simp [Rows.uptoBulk]
  | _ => simp [Rows.uptoBulk]
theorem all_sum {H : Type} : ∀ l : List (DataW H), Rows.uptoBulkAll l = (l.map Rows.uptoBulk).sum
  | [] => by simp [Rows.uptoBulkAll]
  | d :: l => by simp only [Rows.uptoBulkAll, List.map_cons, List.sum_cons, all_sum l]
theorem bulks {H : Type} : Bulk (H := H) Rows.uptoBulk :=
  ⟨one_le, fun b => by simp [Rows.uptoBulk], fun e s => by simp only [Rows.uptoBulk, all_sum]; omega, fun ps => by simp only [Rows.uptoBulk, all_sum]; omega⟩
set_option maxRecDepth 100000 in
theorem contract (H : Type) (enc : TypeId × Value → H) (W : World) (base : Nat) (args : Array Value) (ds gs : List (DataW H)) (before : List MemPlace)
    (hval0 : ∀ (j : Nat) t v, Try.f7.params[j]? = some t → args[j]? = some v → Value.okWide Try.prog W .any base t v)
    (hW : DataW.Whole enc Try.prog Try.f7.params.toList Rows.guardRunsSpec.vars false W args.toList ds gs before) (hsz : (DataW.weightsEach Try.prog (Try.f7.params.toList ++ Rows.guardRunsSpec.plain.varTypes Try.prog) (ds ++ gs)).all (· ≤ reachBytes) = true) (hk : Rows.uptoSmall H (ds ++ gs) = true) :
    Calls Try.prog 7 args W fun e W' => ∃ v, e = .returned v ∧ Rows.guardRunsSpec.post enc Try.prog Try.f7 false true false false W args v W' := by
  have hval : ∀ (j : Nat) t v, Try.f7.params[j]? = some t → args[j]? = some v → Value.okWide Try.prog W .any base t v := hval0
  have hW' := hW
  obtain ⟨p, q, hA0, hV, rfl, hfz, hnd⟩ := hW
  have hA : DataW.TrodAll enc Try.prog W 0 (fun _ => true) true Try.f7.params.toList args.toList ds p := hA0
  rw [Try.params7] at hA hval hsz
  obtain ⟨v0, vs0, d0, ds0, p0, q0, hargs, rfl, rfl, h0, r0⟩ := trodAll_cons hA
  obtain ⟨v1, vs1, d1, ds1, p1, q1, rfl, rfl, rfl, h1, r1⟩ := trodAll_cons r0
  obtain ⟨v2, vs2, d2, ds2, p2, q2, rfl, rfl, rfl, h2, r2⟩ := trodAll_cons r1
  obtain ⟨rfl, rfl, rfl⟩ := trodAll_nil r2
  obtain rfl : args = #[v0, v1, v2] := by cases args; simp_all
  obtain ⟨rfl, rfl⟩ := trodVars_none hV
  have k0 := h0
  have lt0 : ∀ x ∈ p0, x.block < W.heap.size := by obtain ⟨m, hm⟩ := k0; exact DataW.trod_lt m _ _ _ hm
  obtain ⟨a0, V0, g0, b0⟩ := arg_open (τ := (.prod (.prod (.int .i64) (.prod (.int .i64) (.prod (.int .i64) (.int .i64)))) (.prod (.prod (.int .i64) (.prod (.int .i64) (.prod (.int .i64) (.int .i64)))) (.prod (.int .i64) (.int .i64))))) (by kernel_rfl) (hval 0 27 v0 rfl rfl) h0 hsz (j := 0) rfl rfl
  have k1 := h1
  have lt1 : ∀ x ∈ p1, x.block < W.heap.size := by obtain ⟨m, hm⟩ := k1; exact DataW.trod_lt m _ _ _ hm
  obtain ⟨a1, V1, g1, b1⟩ := arg_open (τ := (.prod (.prod (.prod (.int .i64) (.prod (.int .i64) (.prod (.int .i64) .bool))) (.prod (.prod (.int .i64) (.prod (.int .i64) (.prod (.int .i64) .bool))) (.int .i64))) (.prod (.prod (.int .i64) (.prod (.int .i64) (.prod .bool (.prod .bool (.prod (.int .i64) (.prod (.int .i64) (.prod (.int .i64) .bool))))))) (.prod (.prod (.int .i64) (.prod (.int .i64) (.prod (.int .i64) (.int .i64)))) (.prod (.prod .bool (.prod .bool (.prod .bool (.prod .bool .bool)))) (.prod (.prod (.int .i64) (.int .i64)) (.prod (.int .i64) (.prod (.int .i64) (.int .i64))))))))) (by kernel_rfl) (hval 1 39 v1 rfl rfl) h1 hsz (j := 1) rfl rfl
  have k2 := h2
  have lt2 : ∀ x ∈ p2, x.block < W.heap.size := by obtain ⟨m, hm⟩ := k2; exact DataW.trod_lt m _ _ _ hm
  obtain ⟨a2, V2, g2, b2⟩ := arg_open (τ := (.list false 73 (.prod (.list false 62 (.prod (.int .i64) (.int .i64))) (.prod .bool (.prod .bool (.prod .bool (.prod .bool .bool))))))) (by kernel_rfl) (hval 2 66 v2 rfl rfl) h2 hsz (j := 2) rfl rfl
  have hk2 : Rows.uptoBulkAll ([d0, d1, d2] ++ []) ≤ 1048576 := of_decide_eq_true hk
  have hb : bulkT (.prod (.prod (.int .i64) (.prod (.int .i64) (.prod (.int .i64) (.int .i64)))) (.prod (.prod (.int .i64) (.prod (.int .i64) (.prod (.int .i64) (.int .i64)))) (.prod (.int .i64) (.int .i64)))) a0 + bulkT (.prod (.prod (.prod (.int .i64) (.prod (.int .i64) (.prod (.int .i64) .bool))) (.prod (.prod (.int .i64) (.prod (.int .i64) (.prod (.int .i64) .bool))) (.int .i64))) (.prod (.prod (.int .i64) (.prod (.int .i64) (.prod .bool (.prod .bool (.prod (.int .i64) (.prod (.int .i64) (.prod (.int .i64) .bool))))))) (.prod (.prod (.int .i64) (.prod (.int .i64) (.prod (.int .i64) (.int .i64)))) (.prod (.prod .bool (.prod .bool (.prod .bool (.prod .bool .bool)))) (.prod (.prod (.int .i64) (.int .i64)) (.prod (.int .i64) (.prod (.int .i64) (.int .i64)))))))) a1 + bulkT (.list false 73 (.prod (.list false 62 (.prod (.int .i64) (.int .i64))) (.prod .bool (.prod .bool (.prod .bool (.prod .bool .bool)))))) a2 ≤ 1048576 := by
    simp only [List.append_nil, Rows.uptoBulkAll] at hk2
    have := b0 Rows.uptoBulk bulks
    have := b1 Rows.uptoBulk bulks
    have := b2 Rows.uptoBulk bulks
    omega
  clear hA0 hval0 hsz
  have hf := Pure.GuardRuns a0 a1 a2 g0 g1 g2 hb
  obtain ⟨fn, hfn, _, hc⟩ := callL_ok (P := Try.prog) (S := S) okAll (f := 7) (g := s7) (args := [argPV Try.prog 27 (.prod (.prod (.int .i64) (.prod (.int .i64) (.prod (.int .i64) (.int .i64)))) (.prod (.prod (.int .i64) (.prod (.int .i64) (.prod (.int .i64) (.int .i64)))) (.prod (.int .i64) (.int .i64)))) a0, argPV Try.prog 39 (.prod (.prod (.prod (.int .i64) (.prod (.int .i64) (.prod (.int .i64) .bool))) (.prod (.prod (.int .i64) (.prod (.int .i64) (.prod (.int .i64) .bool))) (.int .i64))) (.prod (.prod (.int .i64) (.prod (.int .i64) (.prod .bool (.prod .bool (.prod (.int .i64) (.prod (.int .i64) (.prod (.int .i64) .bool))))))) (.prod (.prod (.int .i64) (.prod (.int .i64) (.prod (.int .i64) (.int .i64)))) (.prod (.prod .bool (.prod .bool (.prod .bool (.prod .bool .bool)))) (.prod (.prod (.int .i64) (.int .i64)) (.prod (.int .i64) (.prod (.int .i64) (.int .i64)))))))) a1, argPV Try.prog 66 (.list false 73 (.prod (.list false 62 (.prod (.int .i64) (.int .i64))) (.prod .bool (.prod .bool (.prod .bool (.prod .bool .bool)))))) a2]) (x := true) hf
  rw [Try.func7] at hfn
  cases hfn
  have hargs2 : VRs (fun _ => undef) (fun _ => False) W [argPV Try.prog 27 (.prod (.prod (.int .i64) (.prod (.int .i64) (.prod (.int .i64) (.int .i64)))) (.prod (.prod (.int .i64) (.prod (.int .i64) (.prod (.int .i64) (.int .i64)))) (.prod (.int .i64) (.int .i64)))) a0, argPV Try.prog 39 (.prod (.prod (.prod (.int .i64) (.prod (.int .i64) (.prod (.int .i64) .bool))) (.prod (.prod (.int .i64) (.prod (.int .i64) (.prod (.int .i64) .bool))) (.int .i64))) (.prod (.prod (.int .i64) (.prod (.int .i64) (.prod .bool (.prod .bool (.prod (.int .i64) (.prod (.int .i64) (.prod (.int .i64) .bool))))))) (.prod (.prod (.int .i64) (.prod (.int .i64) (.prod (.int .i64) (.int .i64)))) (.prod (.prod .bool (.prod .bool (.prod .bool (.prod .bool .bool)))) (.prod (.prod (.int .i64) (.int .i64)) (.prod (.int .i64) (.prod (.int .i64) (.int .i64)))))))) a1, argPV Try.prog 66 (.list false 73 (.prod (.list false 62 (.prod (.int .i64) (.int .i64))) (.prod .bool (.prod .bool (.prod .bool (.prod .bool .bool)))))) a2] [v0, v1, v2] := by
    exact vrs_cons V0 (vrs_cons V1 (vrs_cons V2 (vrs_nil)))
  refine (hc W (fun _ => False) [v0, v1, v2] (fun _ q => q.elim) hargs2).mono fun e W' hp => ?_
  obtain ⟨he, bel⟩ := post_bool (rt := 4) (by kernel_rfl) (by kernel_rfl) hp
  subst he
  exact ⟨_, rfl, _, _, _, [], _, [], hW', trodAll_mk1 (shut_bool Try.underlying4 _), (trodAll_cons_mk (Below.trod laidOut (by kernel_rfl) (of_decide_eq_true (by kernel_rfl)) k0 bel lt0) (trodAll_cons_mk (Below.trod laidOut (by kernel_rfl) (of_decide_eq_true (by kernel_rfl)) k1 bel lt1) (trodAll_cons_mk (Below.trod laidOut (by kernel_rfl) (of_decide_eq_true (by kernel_rfl)) k2 bel lt2) trodAll_mk0))), rfl, bel.frame _, fun h => by cases h⟩
set_option maxRecDepth 100000 in
theorem lifted (os : Os) (started : os.Started) (H : Type) (enc : TypeId × Value → H) (F : Stop.Interp) :
    ReturnsInHanded {} Try.checked os 7 .any ((Rows.OpenSpec.upto Rows.guardRunsSpec).pre6 enc Try.prog Try.f7 Rows.guardRunsUptoRow.domain false) (((Rows.OpenSpec.upto Rows.guardRunsSpec).at F).post enc Try.prog Try.f7 false true false false) := by
  refine returnsInHanded_of_cond_sized (C := Try.checked) (s := Rows.OpenSpec.upto Rows.guardRunsSpec) (k := Rows.uptoSmall) rfl own started (by kernel_rfl) Try.func7
    (OpenSpec.witness (enc := enc) (C := Try.checked) (s := Rows.OpenSpec.upto Rows.guardRunsSpec) (k := Rows.uptoSmall) rfl false ⟨#[], #[.agg #[.int .i64 0, .int .i64 0, .int .i64 0, .int .i64 0, .int .i64 0, .int .i64 0, .int .i64 0, .int .i64 0, .int .i64 0, .int .i64 0], .agg #[.int .i64 0, .int .i64 0, .int .i64 0, .bool false, .int .i64 0, .int .i64 0, .int .i64 0, .bool false, .int .i64 0, .int .i64 0, .int .i64 0, .bool false, .bool false, .int .i64 0, .int .i64 0, .int .i64 0, .bool false, .int .i64 0, .int .i64 0, .int .i64 0, .int .i64 0, .bool false, .bool false, .bool false, .bool false, .bool false, .int .i64 0, .int .i64 0, .int .i64 0, .int .i64 0, .int .i64 0], .slice none 0 0], []⟩ 8 (by kernel_rfl) (by kernel_rfl) (by kernel_rfl)
      (x := ([.agg [.agg [.lit (.int .i64 0), .lit (.int .i64 0), .lit (.int .i64 0), .lit (.int .i64 0)], .agg [.lit (.int .i64 0), .lit (.int .i64 0), .lit (.int .i64 0), .lit (.int .i64 0)], .agg [.lit (.int .i64 0), .lit (.int .i64 0)]], .agg [.agg [.agg [.lit (.int .i64 0), .lit (.int .i64 0), .lit (.int .i64 0), .lit (.bool false)], .agg [.lit (.int .i64 0), .lit (.int .i64 0), .lit (.int .i64 0), .lit (.bool false)], .lit (.int .i64 0)], .agg [.lit (.int .i64 0), .lit (.int .i64 0), .lit (.bool false), .lit (.bool false), .agg [.lit (.int .i64 0), .lit (.int .i64 0), .lit (.int .i64 0), .lit (.bool false)]], .agg [.lit (.int .i64 0), .lit (.int .i64 0), .lit (.int .i64 0), .lit (.int .i64 0)], .agg [.lit (.bool false), .lit (.bool false), .lit (.bool false), .lit (.bool false), .lit (.bool false)], .agg [.lit (.int .i64 0), .lit (.int .i64 0)], .lit (.int .i64 0), .lit (.int .i64 0), .lit (.int .i64 0)], .nil], [], [])) (by kernel_rfl) rfl (by kernel_rfl)) ?_
  intro W base args ds gs before hval0 hW hcnd hk hsz0 _
  exact contract H enc W base args ds gs before hval0 hW hsz0 hk
theorem over : Rows.guardRunsUptoRow.holds Try.pinned (Rows.OpenSpec.upto Rows.guardRunsSpec) :=
  OpenClaim.holds_of_cond 7 Try.f7 rfl rfl rfl rfl rfl rfl rfl ⟨rfl, rfl, rfl, rfl, rfl⟩ rfl rfl rfl rfl rfl (by kernel_rfl) Try.func7 (by kernel_rfl)
    (of_decide_eq_true (by kernel_rfl)) (by unfold Func.isWrapper; first | (rw [if_pos (by decide +kernel)]; kernel_rfl) | (rw [if_neg (by decide +kernel)]; exact ⟨rfl, rfl⟩))
    (fun os started H enc _ F => lifted os started H enc F)
theorem proved : Rows.GuardRunsUptoSaid := over
#print axioms proved
end Go.Proofs.Ytmbjpenjcfkaoaa.guardRuns
namespace Go.Proofs.Ytmbjpenjcfkaoaa
/-- The row, under a short name, for the claim. -/
theorem guardRuns_holds : Rows.GuardRunsUptoSaid := guardRuns.proved
end Go.Proofs.Ytmbjpenjcfkaoaa
