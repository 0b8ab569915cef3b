/- The law SlewPoses holds: for every input that can be read, the call returns true and leaves the arguments as they were. No conditions. -/
import Derived.Test.YtchmfnmnijhjfaaRows
import Derived.Test.YtchmfnmnijhjfaaStSlewPoses
import Derived.Test.YtchmfnmnijhjfaaPureSlewPoses
import Derived.WalkKit
import Derived.ProofKit
import Derived.OpenShut
import Derived.ShutString
import Derived.ChangeOld
import Derived.Below
import Derived.SizedLaws
import Derived.Carry
namespace Go.Proofs.Ytchmfnmnijhjfaa.slewPoses
open Go.ChangeShapes Go.WideShapes Go.ChangeAt Go.RowKit Go.Proofs.Ytchmfnmnijhjfaa.Opn Go.Proofs.Ytchmfnmnijhjfaa.StSlewPoses Go.Proofs.Ytchmfnmnijhjfaa.PSlewPoses Go.Proofs.YtchmfnmnijhjfaaW.PrintWords
open Go.ChangeMaps (open_string shut_string)
set_option linter.unusedVariables false
set_option linter.unusedSimpArgs false
theorem own : ownKnob Try.prog.godebug = none := by kernel_rfl
theorem laidOut : laidOutB Try.prog = true := by kernel_rfl
set_option maxRecDepth 100000 in
theorem lifted (os : Os) (started : os.Started) (H : Type) (enc : TypeId × Value → H) :
    ReturnsInHanded {} Try.checked os 9 .any (Rows.slewPosesSpec.pre6 enc Try.prog Try.f9 Rows.slewPosesRow.domain false) (Rows.slewPosesSpec.post enc Try.prog Try.f9 false true false false) := by
  refine returnsInHanded_of_change_sized (C := Try.checked) own started (by kernel_rfl) Try.func9
    (ChangeSpec.witness6 (enc := enc) (C := Try.checked) false ⟨#[], #[.agg #[.int .i64 0, .int .i64 0, .int .i64 0, .int .i64 0, .int .i64 0, .int .i64 0, .int .i64 0, .int .i64 0, .int .i64 0, .int .i64 0], .agg #[.int .i64 0, .int .i64 0], .agg #[.int .i64 0, .int .i64 0]], []⟩ 8 (by kernel_rfl) (by kernel_rfl) (by kernel_rfl) (by kernel_rfl)) ?_
  intro W base args ds gs before hval0 hW hcnd hsz0 _
  have hsz : (DataW.weightsEach Try.prog (Try.f9.params.toList ++ Rows.slewPosesSpec.plain.varTypes Try.prog) (ds ++ gs)).all (· ≤ reachBytes) = true := hsz0
  have hval : ∀ (j : Nat) t v, Try.f9.params[j]? = some t → args[j]? = some v → Value.okWide Try.prog W .any base t v := hval0
  have hW' := hW
  obtain ⟨p, q, hA0, hV, rfl, hfz, hnd⟩ := hW
  have hA : DataW.TrodAll enc Try.prog W 0 (fun _ => true) true Try.f9.params.toList args.toList ds p := hA0
  rw [Try.params9] at hA hval hsz
  obtain ⟨v0, vs0, d0, ds0, p0, q0, hargs, rfl, rfl, h0, r0⟩ := trodAll_cons hA
  obtain ⟨v1, vs1, d1, ds1, p1, q1, rfl, rfl, rfl, h1, r1⟩ := trodAll_cons r0
  obtain ⟨v2, vs2, d2, ds2, p2, q2, rfl, rfl, rfl, h2, r2⟩ := trodAll_cons r1
  obtain ⟨rfl, rfl, rfl⟩ := trodAll_nil r2
  obtain rfl : args = #[v0, v1, v2] := by cases args; simp_all
  obtain ⟨rfl, rfl⟩ := trodVars_none hV
  have k0 := h0
  have lt0 : ∀ x ∈ p0, x.block < W.heap.size := by obtain ⟨m, hm⟩ := k0; exact DataW.trod_lt m _ _ _ hm
  obtain ⟨cs0, rfl, _⟩ := okWide_struct Try.underlying38 (hval 0 38 v0 rfl rfl)
  obtain ⟨z0, K0, w0⟩ := rds_arg (d := (Kd.pair (Kd.pair (Kd.int .i64) (Kd.pair (Kd.int .i64) (Kd.pair (Kd.int .i64) (Kd.int .i64)))) (Kd.pair (Kd.pair (Kd.int .i64) (Kd.pair (Kd.int .i64) (Kd.pair (Kd.int .i64) (Kd.int .i64)))) (Kd.pair (Kd.int .i64) (Kd.int .i64))))) (rds_struct Try.underlying38 rfl (by kernel_rfl) (rdsF_cons rfl (by kernel_rfl) (rds_struct Try.underlying23 rfl (by kernel_rfl) (rdsF_cons rfl (by kernel_rfl) (rds_int Try.underlying2) (rdsF_cons rfl (by kernel_rfl) (rds_int Try.underlying2) (rdsF_cons rfl (by kernel_rfl) (rds_int Try.underlying2) (rdsF_one rfl (by kernel_rfl) (rds_int Try.underlying2)))))) (rdsF_cons rfl (by kernel_rfl) (rds_struct Try.underlying23 rfl (by kernel_rfl) (rdsF_cons rfl (by kernel_rfl) (rds_int Try.underlying2) (rdsF_cons rfl (by kernel_rfl) (rds_int Try.underlying2) (rdsF_cons rfl (by kernel_rfl) (rds_int Try.underlying2) (rdsF_one rfl (by kernel_rfl) (rds_int Try.underlying2)))))) (rdsF_one rfl (by kernel_rfl) (rds_struct Try.underlying36 rfl (by kernel_rfl) (rdsF_cons rfl (by kernel_rfl) (rds_int Try.underlying2) (rdsF_one rfl (by kernel_rfl) (rds_int Try.underlying2)))))))) hsz (j := 0) rfl rfl h0
  obtain ⟨⟨a0_0_0, a0_0_1, a0_0_2, a0_0_3⟩, ⟨a0_1_0, a0_1_1, a0_1_2, a0_1_3⟩, ⟨a0_2_0, a0_2_1⟩⟩ := z0
  obtain ⟨_, _, e0, ⟨_, _, rfl, rfl, ⟨_, _, rfl, rfl, ⟨_, _, rfl, rfl, rfl⟩⟩⟩, ⟨_, _, rfl, ⟨_, _, rfl, rfl, ⟨_, _, rfl, rfl, ⟨_, _, rfl, rfl, rfl⟩⟩⟩, ⟨_, _, rfl, rfl, rfl⟩⟩⟩ := K0
  obtain ⟨⟨w0_0_0, w0_0_1, w0_0_2, w0_0_3⟩, ⟨w0_1_0, w0_1_1, w0_1_2, w0_1_3⟩, ⟨w0_2_0, w0_2_1⟩⟩ := w0
  obtain rfl : cs0 = #[.int .i64 a0_0_0, .int .i64 a0_0_1, .int .i64 a0_0_2, .int .i64 a0_0_3, .int .i64 a0_1_0, .int .i64 a0_1_1, .int .i64 a0_1_2, .int .i64 a0_1_3, .int .i64 a0_2_0, .int .i64 a0_2_1] := by cases cs0; simpa [Value.cells] using e0
  have k1 := h1
  have lt1 : ∀ x ∈ p1, x.block < W.heap.size := by obtain ⟨m, hm⟩ := k1; exact DataW.trod_lt m _ _ _ hm
  obtain ⟨cs1, rfl, _⟩ := okWide_struct Try.underlying36 (hval 1 36 v1 rfl rfl)
  obtain ⟨z1, K1, w1⟩ := rds_arg (d := (Kd.pair (Kd.int .i64) (Kd.int .i64))) (rds_struct Try.underlying36 rfl (by kernel_rfl) (rdsF_cons rfl (by kernel_rfl) (rds_int Try.underlying2) (rdsF_one rfl (by kernel_rfl) (rds_int Try.underlying2)))) hsz (j := 1) rfl rfl h1
  obtain ⟨a1_0, a1_1⟩ := z1
  obtain ⟨_, _, e1, rfl, rfl⟩ := K1
  obtain ⟨w1_0, w1_1⟩ := w1
  obtain rfl : cs1 = #[.int .i64 a1_0, .int .i64 a1_1] := by cases cs1; simpa [Value.cells] using e1
  have k2 := h2
  have lt2 : ∀ x ∈ p2, x.block < W.heap.size := by obtain ⟨m, hm⟩ := k2; exact DataW.trod_lt m _ _ _ hm
  obtain ⟨cs2, rfl, _⟩ := okWide_struct Try.underlying36 (hval 2 36 v2 rfl rfl)
  obtain ⟨z2, K2, w2⟩ := rds_arg (d := (Kd.pair (Kd.int .i64) (Kd.int .i64))) (rds_struct Try.underlying36 rfl (by kernel_rfl) (rdsF_cons rfl (by kernel_rfl) (rds_int Try.underlying2) (rdsF_one rfl (by kernel_rfl) (rds_int Try.underlying2)))) hsz (j := 2) rfl rfl h2
  obtain ⟨a2_0, a2_1⟩ := z2
  obtain ⟨_, _, e2, rfl, rfl⟩ := K2
  obtain ⟨w2_0, w2_1⟩ := w2
  obtain rfl : cs2 = #[.int .i64 a2_0, .int .i64 a2_1] := by cases cs2; simpa [Value.cells] using e2
  clear hA0 hval0 hsz0 hsz
  obtain ⟨k, hf⟩ := Pure.SlewPoses _ _ _ _ _ _ _ _ _ _ _ _ _ _ w0_0_0 w0_0_1 w0_0_2 w0_0_3 w0_1_0 w0_1_1 w0_1_2 w0_1_3 w0_2_0 w0_2_1 w1_0 w1_1 w2_0 w2_1
  refine (spylaw2_SlewPoses.calls k _ _ _ _ _ _ _ _ _ _ _ _ _ _ true W hf).mono fun e W' ⟨he, bel⟩ => ?_
  subst he
  exact ⟨_, rfl, _, _, _, [], _, [], hW', trodAll_mk1 (shut_bool Try.underlying4 _), (trodAll_cons_mk (Below.trod laidOut (by kernel_rfl) (of_decide_eq_true (by kernel_rfl)) k0 bel lt0) (trodAll_cons_mk (Below.trod laidOut (by kernel_rfl) (of_decide_eq_true (by kernel_rfl)) k1 bel lt1) (trodAll_cons_mk (Below.trod laidOut (by kernel_rfl) (of_decide_eq_true (by kernel_rfl)) k2 bel lt2) trodAll_mk0))), rfl, bel.frame _, fun h => by cases h⟩
theorem over : Rows.slewPosesRow.holds Try.pinned (OpenSpec.ofChange Rows.slewPosesSpec) :=
  OpenClaim.holds_of_wide 9 Try.f9 rfl rfl rfl rfl rfl rfl rfl ⟨rfl, rfl, rfl, rfl, rfl⟩ rfl rfl rfl rfl rfl (by kernel_rfl) Try.func9 (by kernel_rfl)
    (of_decide_eq_true (by kernel_rfl)) (by unfold Func.isWrapper; first | (rw [if_pos (by decide +kernel)]; kernel_rfl) | (rw [if_neg (by decide +kernel)]; exact ⟨rfl, rfl⟩))
    (fun os started H enc _ => lifted os started H enc)
theorem proved : Rows.SlewPosesSaid := over
#print axioms proved
end Go.Proofs.Ytchmfnmnijhjfaa.slewPoses
namespace Go.Proofs.Ytchmfnmnijhjfaa
/-- The row, under a short name, for the claim. -/
theorem slewPoses_holds : Rows.SlewPosesSaid := slewPoses.proved
end Go.Proofs.Ytchmfnmnijhjfaa
