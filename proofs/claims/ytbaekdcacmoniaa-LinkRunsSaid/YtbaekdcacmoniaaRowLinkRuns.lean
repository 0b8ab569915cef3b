/- The law LinkRuns holds: for every input that can be read, the call returns true and leaves the arguments as they were. No conditions. -/
import Derived.Test.YtbaekdcacmoniaaRows
import Derived.Test.YtbaekdcacmoniaaPv23
import Derived.Test.YtbaekdcacmoniaaPureLinkRuns
import Derived.WalkKit
import Derived.ProofKit
import Derived.OpenShut
import Derived.ShutString
import Derived.ChangeOld
import Derived.Below
import Derived.SizedLaws
import Derived.Carry
import Derived.KernelRfl
import Derived.Leaving
import Derived.ClaimOpenTies
namespace Go.Proofs.Ytbaekdcacmoniaa.linkRuns
open Go.ChangeShapes Go.WideShapes Go.ChangeAt Go.RowKit Go.Proofs.Ytbaekdcacmoniaa.Pv Go.Proofs.Ytbaekdcacmoniaa.EA
set_option linter.unusedVariables false
set_option linter.unusedSimpArgs false
theorem own : ownKnob Try.prog.godebug = none := by kernel_rfl
theorem laidOut : laidOutB Try.prog = true := by kernel_rfl
theorem okAll {W0 : World} : OkS Try.prog S W0 := OkS.of (by kernel_rfl) (by kernel_rfl)
set_option maxRecDepth 100000 in
theorem contract (H : Type) (enc : TypeId × Value → H) (W : World) (base : Nat) (args : Array Value) (ds gs : List (DataW H)) (before : List MemPlace)
    (hval0 : ∀ (j : Nat) t v, Try.f3.params[j]? = some t → args[j]? = some v → Value.okWide Try.prog W .any base t v)
    (hW : DataW.Whole enc Try.prog Try.f3.params.toList Rows.linkRunsSpec.vars false W args.toList ds gs before) (hsz : (DataW.weightsEach Try.prog (Try.f3.params.toList ++ Rows.linkRunsSpec.plain.varTypes Try.prog) (ds ++ gs)).all (· ≤ reachBytes) = true) :
    Calls Try.prog 3 args W fun e W' => ∃ v, e = .returned v ∧ Rows.linkRunsSpec.post enc Try.prog Try.f3 false true false false W args v W' := by
  have hval : ∀ (j : Nat) t v, Try.f3.params[j]? = some t → args[j]? = some v → Value.okWide Try.prog W .any base t v := hval0
  have hW' := hW
  obtain ⟨p, q, hA0, hV, rfl, hfz, hnd⟩ := hW
  have hA : DataW.TrodAll enc Try.prog W 0 (fun _ => true) true Try.f3.params.toList args.toList ds p := hA0
  rw [Try.params3] at hA hval hsz
  obtain ⟨v0, vs0, d0, ds0, p0, q0, hargs, rfl, rfl, h0, r0⟩ := trodAll_cons hA
  obtain ⟨v1, vs1, d1, ds1, p1, q1, rfl, rfl, rfl, h1, r1⟩ := trodAll_cons r0
  obtain ⟨v2, vs2, d2, ds2, p2, q2, rfl, rfl, rfl, h2, r2⟩ := trodAll_cons r1
  obtain ⟨v3, vs3, d3, ds3, p3, q3, rfl, rfl, rfl, h3, r3⟩ := trodAll_cons r2
  obtain ⟨rfl, rfl, rfl⟩ := trodAll_nil r3
  obtain rfl : args = #[v0, v1, v2, v3] := by cases args; simp_all
  obtain ⟨rfl, rfl⟩ := trodVars_none hV
  have k0 := h0
  have lt0 : ∀ x ∈ p0, x.block < W.heap.size := by obtain ⟨m, hm⟩ := k0; exact DataW.trod_lt m _ _ _ hm
  obtain ⟨a0, V0, g0, b0⟩ := arg_open (τ := (.list false 41 (.prod (.int .i64) (.prod (.int .i64) (.int .i64))))) (by kernel_rfl) (hval 0 22 v0 rfl rfl) h0 hsz (j := 0) rfl rfl
  have k1 := h1
  have lt1 : ∀ x ∈ p1, x.block < W.heap.size := by obtain ⟨m, hm⟩ := k1; exact DataW.trod_lt m _ _ _ hm
  obtain ⟨a1, V1, g1, b1⟩ := arg_open (τ := (.list false 62 (.prod .bool (.prod (.int .i64) (.prod (.int .i64) (.list false 3 (.int .i64))))))) (by kernel_rfl) (hval 1 23 v1 rfl rfl) h1 hsz (j := 1) rfl rfl
  have k2 := h2
  have lt2 : ∀ x ∈ p2, x.block < W.heap.size := by obtain ⟨m, hm⟩ := k2; exact DataW.trod_lt m _ _ _ hm
  obtain ⟨a2, V2, g2, b2⟩ := arg_open (τ := (.list false 62 (.prod .bool (.prod (.int .i64) (.prod (.int .i64) (.list false 3 (.int .i64))))))) (by kernel_rfl) (hval 2 23 v2 rfl rfl) h2 hsz (j := 2) rfl rfl
  have k3 := h3
  have lt3 : ∀ x ∈ p3, x.block < W.heap.size := by obtain ⟨m, hm⟩ := k3; exact DataW.trod_lt m _ _ _ hm
  obtain ⟨a3, V3, g3, b3⟩ := arg_open (τ := (.int .i64)) (by kernel_rfl) (hval 3 3 v3 rfl rfl) h3 hsz (j := 3) rfl rfl
  clear hA0 hval0 hsz
  have hf := Pure.LinkRuns a0 a1 a2 a3 g0 g1 g2 g3
  obtain ⟨fn, hfn, _, hc⟩ := (callL_ok (P := Try.prog) (S := S) (W0 := W) okAll (f := 3) (g := s3) (args := [argPV Try.prog 22 (.list false 41 (.prod (.int .i64) (.prod (.int .i64) (.int .i64)))) a0, argPV Try.prog 23 (.list false 62 (.prod .bool (.prod (.int .i64) (.prod (.int .i64) (.list false 3 (.int .i64)))))) a1, argPV Try.prog 23 (.list false 62 (.prod .bool (.prod (.int .i64) (.prod (.int .i64) (.list false 3 (.int .i64)))))) a2, argPV Try.prog 3 (.int .i64) a3]) (x := true) hf).1 rfl
  rw [Try.func3] at hfn
  cases hfn
  have hargs2 : VRs (fun _ => undef) (fun _ => False) W [argPV Try.prog 22 (.list false 41 (.prod (.int .i64) (.prod (.int .i64) (.int .i64)))) a0, argPV Try.prog 23 (.list false 62 (.prod .bool (.prod (.int .i64) (.prod (.int .i64) (.list false 3 (.int .i64)))))) a1, argPV Try.prog 23 (.list false 62 (.prod .bool (.prod (.int .i64) (.prod (.int .i64) (.list false 3 (.int .i64)))))) a2, argPV Try.prog 3 (.int .i64) a3] [v0, v1, v2, v3] := by
    exact vrs_cons V0 (vrs_cons V1 (vrs_cons V2 (vrs_cons V3 (vrs_nil))))
  refine (hc W (fun _ => False) [v0, v1, v2, v3] (Beneath.refl _ _) (fun _ q => q.elim) hargs2).mono fun e W' hp => ?_
  obtain ⟨he, bel⟩ := post_bool (rt := 4) (by kernel_rfl) (by kernel_rfl) hp
  subst he
  exact ⟨_, rfl, _, _, _, [], _, [], hW', trodAll_mk1 (shut_bool Try.underlying4 _), (trodAll_cons_mk (Below.trod laidOut (by kernel_rfl) (of_decide_eq_true (by kernel_rfl)) k0 bel lt0) (trodAll_cons_mk (Below.trod laidOut (by kernel_rfl) (of_decide_eq_true (by kernel_rfl)) k1 bel lt1) (trodAll_cons_mk (Below.trod laidOut (by kernel_rfl) (of_decide_eq_true (by kernel_rfl)) k2 bel lt2) (trodAll_cons_mk (Below.trod laidOut (by kernel_rfl) (of_decide_eq_true (by kernel_rfl)) k3 bel lt3) trodAll_mk0)))), rfl, bel.frame _, fun h => by cases h⟩
set_option maxRecDepth 100000 in
theorem lifted (os : Os) (started : os.Started) (H : Type) (enc : TypeId × Value → H) :
    ReturnsInHanded {} Try.checked os 3 .any (Rows.linkRunsSpec.pre6 enc Try.prog Try.f3 Rows.linkRunsRow.domain false) (Rows.linkRunsSpec.post enc Try.prog Try.f3 false true false false) := by
  refine returnsInHanded_of_change_sized (C := Try.checked) own started (by kernel_rfl) Try.func3
    (ChangeSpec.witness6 (enc := enc) (C := Try.checked) false ⟨#[], #[.slice none 0 0, .slice none 0 0, .slice none 0 0, .int .i64 0], []⟩ 8 (by kernel_rfl) (by kernel_rfl) (by kernel_rfl) (by kernel_rfl)) ?_
  intro W base args ds gs before hval0 hW hcnd hsz0 _
  exact contract H enc W base args ds gs before hval0 hW hsz0
theorem and_mk {a b : Bool} (h : a = true) (k : b = true) : (a && b) = true := by rw [h, k]; rfl
set_option maxHeartbeats 8000000 in
set_option maxRecDepth 100000 in
/-- Part by part: a large program asks too much of the kernel at once. -/
theorem closed_ : joinedFacts Try.pinned.checked.prog 3 Try.f3 Rows.linkRunsSpec Rows.linkRunsRow = true := by
  unfold joinedFacts
  repeat' (with_reducible refine and_mk ?_ ?_)
  all_goals (as_aux_lemma => kernel_rfl)
theorem over : Rows.linkRunsRow.holds Try.pinned (OpenSpec.ofChange Rows.linkRunsSpec) :=
  OpenClaim.holds_of_wide 3 Try.f3 rfl rfl rfl rfl rfl rfl rfl ⟨rfl, rfl, rfl, rfl, rfl⟩ rfl rfl rfl rfl rfl (by kernel_rfl) Try.func3 closed_
    (of_decide_eq_true (by kernel_rfl)) (by unfold Func.isWrapper; first | (rw [if_pos (by decide +kernel)]; kernel_rfl) | (rw [if_neg (by decide +kernel)]; exact ⟨rfl, rfl⟩))
    (fun os started H enc _ => lifted os started H enc)
theorem proved : Rows.LinkRunsSaid := over
#print axioms proved
end Go.Proofs.Ytbaekdcacmoniaa.linkRuns
namespace Go.Proofs.Ytbaekdcacmoniaa
/-- The row, under a short name, for the claim. -/
theorem linkRuns_holds : Rows.LinkRunsSaid := linkRuns.proved
end Go.Proofs.Ytbaekdcacmoniaa
