/- The law DomeSteps holds: for every input that can be read, the call returns true and leaves the arguments as they were. No conditions. -/
import Derived.Test.YtchmfnmnijhjfaaRows
import Derived.Test.YtchmfnmnijhjfaaPv23
import Derived.Test.YtchmfnmnijhjfaaPureDomeSteps
import Derived.WalkKit
import Derived.ProofKit
import Derived.OpenShut
import Derived.ShutString
import Derived.ChangeOld
import Derived.Below
import Derived.SizedLaws
import Derived.Carry
import Derived.KernelRfl
namespace Go.Proofs.Ytchmfnmnijhjfaa.domeSteps
open Go.ChangeShapes Go.WideShapes Go.ChangeAt Go.RowKit Go.Proofs.Ytchmfnmnijhjfaa.Pv Go.Proofs.Ytchmfnmnijhjfaa.EA
set_option linter.unusedVariables false
set_option linter.unusedSimpArgs false
theorem own : ownKnob Try.prog.godebug = none := by kernel_rfl
theorem laidOut : laidOutB Try.prog = true := by kernel_rfl
theorem okAll : okS Try.prog S = true := by kernel_rfl
set_option maxRecDepth 100000 in
theorem contract (H : Type) (enc : TypeId × Value → H) (W : World) (base : Nat) (args : Array Value) (ds gs : List (DataW H)) (before : List MemPlace)
    (hval0 : ∀ (j : Nat) t v, Try.f11.params[j]? = some t → args[j]? = some v → Value.okWide Try.prog W .any base t v)
    (hW : DataW.Whole enc Try.prog Try.f11.params.toList Rows.domeStepsSpec.vars false W args.toList ds gs before) (hsz : (DataW.weightsEach Try.prog (Try.f11.params.toList ++ Rows.domeStepsSpec.plain.varTypes Try.prog) (ds ++ gs)).all (· ≤ reachBytes) = true) :
    Calls Try.prog 11 args W fun e W' => ∃ v, e = .returned v ∧ Rows.domeStepsSpec.post enc Try.prog Try.f11 false true false false W args v W' := by
  have hval : ∀ (j : Nat) t v, Try.f11.params[j]? = some t → args[j]? = some v → Value.okWide Try.prog W .any base t v := hval0
  have hW' := hW
  obtain ⟨p, q, hA0, hV, rfl, hfz, hnd⟩ := hW
  have hA : DataW.TrodAll enc Try.prog W 0 (fun _ => true) true Try.f11.params.toList args.toList ds p := hA0
  rw [Try.params11] at hA hval hsz
  obtain ⟨v0, vs0, d0, ds0, p0, q0, hargs, rfl, rfl, h0, r0⟩ := trodAll_cons hA
  obtain ⟨rfl, rfl, rfl⟩ := trodAll_nil r0
  obtain rfl : args = #[v0] := by cases args; simp_all
  obtain ⟨rfl, rfl⟩ := trodVars_none hV
  have k0 := h0
  have lt0 : ∀ x ∈ p0, x.block < W.heap.size := by obtain ⟨m, hm⟩ := k0; exact DataW.trod_lt m _ _ _ hm
  obtain ⟨a0, V0, g0, b0⟩ := arg_open (τ := (.prod (.int .i64) (.prod (.int .i64) (.prod .bool (.prod .bool (.prod (.int .i64) (.prod (.int .i64) (.prod (.int .i64) .bool)))))))) (by kernel_rfl) (hval 0 67 v0 rfl rfl) h0 hsz (j := 0) rfl rfl
  clear hA0 hval0 hsz
  have hf := Pure.DomeSteps a0 g0
  obtain ⟨fn, hfn, _, hc⟩ := callL_ok (P := Try.prog) (S := S) okAll (f := 11) (g := s11) (args := [argPV Try.prog 67 (.prod (.int .i64) (.prod (.int .i64) (.prod .bool (.prod .bool (.prod (.int .i64) (.prod (.int .i64) (.prod (.int .i64) .bool))))))) a0]) (x := true) hf
  rw [Try.func11] at hfn
  cases hfn
  have hargs2 : VRs (fun _ => undef) (fun _ => False) W [argPV Try.prog 67 (.prod (.int .i64) (.prod (.int .i64) (.prod .bool (.prod .bool (.prod (.int .i64) (.prod (.int .i64) (.prod (.int .i64) .bool))))))) a0] [v0] := by
    exact vrs_cons V0 (vrs_nil)
  refine (hc W (fun _ => False) [v0] (fun _ q => q.elim) hargs2).mono fun e W' hp => ?_
  obtain ⟨he, bel⟩ := post_bool (rt := 4) (by kernel_rfl) (by kernel_rfl) hp
  subst he
  exact ⟨_, rfl, _, _, _, [], _, [], hW', trodAll_mk1 (shut_bool Try.underlying4 _), (trodAll_cons_mk (Below.trod laidOut (by kernel_rfl) (of_decide_eq_true (by kernel_rfl)) k0 bel lt0) trodAll_mk0), rfl, bel.frame _, fun h => by cases h⟩
set_option maxRecDepth 100000 in
theorem lifted (os : Os) (started : os.Started) (H : Type) (enc : TypeId × Value → H) :
    ReturnsInHanded {} Try.checked os 11 .any (Rows.domeStepsSpec.pre6 enc Try.prog Try.f11 Rows.domeStepsRow.domain false) (Rows.domeStepsSpec.post enc Try.prog Try.f11 false true false false) := by
  refine returnsInHanded_of_change_sized (C := Try.checked) own started (by kernel_rfl) Try.func11
    (ChangeSpec.witness6 (enc := enc) (C := Try.checked) false ⟨#[], #[.agg #[.int .i64 0, .int .i64 0, .bool false, .bool false, .int .i64 0, .int .i64 0, .int .i64 0, .bool false]], []⟩ 8 (by kernel_rfl) (by kernel_rfl) (by kernel_rfl) (by kernel_rfl)) ?_
  intro W base args ds gs before hval0 hW hcnd hsz0 _
  exact contract H enc W base args ds gs before hval0 hW hsz0
theorem over : Rows.domeStepsRow.holds Try.pinned (OpenSpec.ofChange Rows.domeStepsSpec) :=
  OpenClaim.holds_of_wide 11 Try.f11 rfl rfl rfl rfl rfl rfl rfl ⟨rfl, rfl, rfl, rfl, rfl⟩ rfl rfl rfl rfl rfl (by kernel_rfl) Try.func11 (by kernel_rfl)
    (of_decide_eq_true (by kernel_rfl)) (by unfold Func.isWrapper; first | (rw [if_pos (by decide +kernel)]; kernel_rfl) | (rw [if_neg (by decide +kernel)]; exact ⟨rfl, rfl⟩))
    (fun os started H enc _ => lifted os started H enc)
theorem proved : Rows.DomeStepsSaid := over
#print axioms proved
end Go.Proofs.Ytchmfnmnijhjfaa.domeSteps
namespace Go.Proofs.Ytchmfnmnijhjfaa
/-- The row, under a short name, for the claim. -/
theorem domeSteps_holds : Rows.DomeStepsSaid := domeSteps.proved
end Go.Proofs.Ytchmfnmnijhjfaa
