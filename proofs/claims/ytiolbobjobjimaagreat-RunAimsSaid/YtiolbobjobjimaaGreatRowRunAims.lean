/- The law RunAims holds: for every input that can be read, the call returns true and leaves the arguments as they were. No conditions. -/
import Derived.Test.YtiolbobjobjimaaGreatRows
import Derived.Test.YtiolbobjobjimaaGreatPv23
import Derived.Test.YtiolbobjobjimaaGreatPureRunAims
import Derived.WalkKit
import Derived.ProofKit
import Derived.OpenShut
import Derived.ShutString
import Derived.ChangeOld
import Derived.Below
import Derived.SizedLaws
import Derived.Carry
import Derived.KernelRfl
import Derived.Leaving
import Derived.ClaimOpenTies
namespace Go.Proofs.YtiolbobjobjimaaGreat.runAims
open Go.ChangeShapes Go.WideShapes Go.ChangeAt Go.RowKit Go.Proofs.YtiolbobjobjimaaGreat.Pv Go.Proofs.YtiolbobjobjimaaGreat.EA
set_option linter.unusedVariables false
set_option linter.unusedSimpArgs false
theorem own : ownKnob Tryz.prog.godebug = none := by kernel_rfl
theorem laidOut : laidOutB Tryz.prog = true := by kernel_rfl
theorem okAll : okS Tryz.prog S = true := by kernel_rfl
set_option maxRecDepth 100000 in
theorem contract (H : Type) (enc : TypeId × Value → H) (W : World) (base : Nat) (args : Array Value) (ds gs : List (DataW H)) (before : List MemPlace)
    (hval0 : ∀ (j : Nat) t v, Tryz.f3.params[j]? = some t → args[j]? = some v → Value.okWide Tryz.prog W .any base t v)
    (hW : DataW.Whole enc Tryz.prog Tryz.f3.params.toList Rows.runAimsSpec.vars false W args.toList ds gs before) (hsz : (DataW.weightsEach Tryz.prog (Tryz.f3.params.toList ++ Rows.runAimsSpec.plain.varTypes Tryz.prog) (ds ++ gs)).all (· ≤ reachBytes) = true) :
    Calls Tryz.prog 3 args W fun e W' => ∃ v, e = .returned v ∧ Rows.runAimsSpec.post enc Tryz.prog Tryz.f3 false true false false W args v W' := by
  have hval : ∀ (j : Nat) t v, Tryz.f3.params[j]? = some t → args[j]? = some v → Value.okWide Tryz.prog W .any base t v := hval0
  have hW' := hW
  obtain ⟨p, q, hA0, hV, rfl, hfz, hnd⟩ := hW
  have hA : DataW.TrodAll enc Tryz.prog W 0 (fun _ => true) true Tryz.f3.params.toList args.toList ds p := hA0
  rw [Tryz.params3] at hA hval hsz
  obtain ⟨v0, vs0, d0, ds0, p0, q0, hargs, rfl, rfl, h0, r0⟩ := trodAll_cons hA
  obtain ⟨v1, vs1, d1, ds1, p1, q1, rfl, rfl, rfl, h1, r1⟩ := trodAll_cons r0
  obtain ⟨v2, vs2, d2, ds2, p2, q2, rfl, rfl, rfl, h2, r2⟩ := trodAll_cons r1
  obtain ⟨v3, vs3, d3, ds3, p3, q3, rfl, rfl, rfl, h3, r3⟩ := trodAll_cons r2
  obtain ⟨v4, vs4, d4, ds4, p4, q4, rfl, rfl, rfl, h4, r4⟩ := trodAll_cons r3
  obtain ⟨v5, vs5, d5, ds5, p5, q5, rfl, rfl, rfl, h5, r5⟩ := trodAll_cons r4
  obtain ⟨rfl, rfl, rfl⟩ := trodAll_nil r5
  obtain rfl : args = #[v0, v1, v2, v3, v4, v5] := by cases args; simp_all
  obtain ⟨rfl, rfl⟩ := trodVars_none hV
  have k0 := h0
  have lt0 : ∀ x ∈ p0, x.block < W.heap.size := by obtain ⟨m, hm⟩ := k0; exact DataW.trod_lt m _ _ _ hm
  obtain ⟨a0, V0, g0, b0⟩ := arg_open (τ := (.prod (.prod (.int .i64) (.int .i64)) (.prod (.prod (.int .i64) (.prod (.int .i64) (.prod (.int .i64) (.int .i64)))) (.prod (.int .i64) (.prod (.int .i64) (.prod (.int .i64) (.prod (.prod (.int .i64) (.prod (.int .i64) (.int .i64))) (.prod (.prod (.int .i64) (.prod (.int .i64) (.int .i64))) (.prod (.int .i64) (.list false 3 (.int .i64))))))))))) (by kernel_rfl) (hval 0 35 v0 rfl rfl) h0 hsz (j := 0) rfl rfl
  have k1 := h1
  have lt1 : ∀ x ∈ p1, x.block < W.heap.size := by obtain ⟨m, hm⟩ := k1; exact DataW.trod_lt m _ _ _ hm
  obtain ⟨a1, V1, g1, b1⟩ := arg_open (τ := (.prod (.prod (.int .i64) (.prod (.int .i64) (.prod (.int .i64) (.int .i64)))) (.prod (.prod (.int .i64) (.prod (.int .i64) (.prod (.int .i64) (.int .i64)))) (.prod (.int .i64) (.int .i64))))) (by kernel_rfl) (hval 1 41 v1 rfl rfl) h1 hsz (j := 1) rfl rfl
  have k2 := h2
  have lt2 : ∀ x ∈ p2, x.block < W.heap.size := by obtain ⟨m, hm⟩ := k2; exact DataW.trod_lt m _ _ _ hm
  obtain ⟨a2, V2, g2, b2⟩ := arg_open (τ := (.prod (.list false 155 (.prod .str (.int .i64))) (.list false 106 (.prod (.int .i64) (.prod (.int .i64) (.prod (.prod (.int .i64) (.prod (.int .i64) (.int .i64))) (.prod (.int .i64) (.prod (.int .i64) (.prod (.int .i64) (.prod (.int .i64) (.prod (.int .i64) (.prod (.int .i64) (.prod (.int .i64) (.int .i64)))))))))))))) (by kernel_rfl) (hval 2 45 v2 rfl rfl) h2 hsz (j := 2) rfl rfl
  have k3 := h3
  have lt3 : ∀ x ∈ p3, x.block < W.heap.size := by obtain ⟨m, hm⟩ := k3; exact DataW.trod_lt m _ _ _ hm
  obtain ⟨a3, V3, g3, b3⟩ := arg_open (τ := (.list false 93 (.prod (.int .i64) (.prod (.int .i64) (.prod (.int .i64) (.int .i64)))))) (by kernel_rfl) (hval 3 46 v3 rfl rfl) h3 hsz (j := 3) rfl rfl
  have k4 := h4
  have lt4 : ∀ x ∈ p4, x.block < W.heap.size := by obtain ⟨m, hm⟩ := k4; exact DataW.trod_lt m _ _ _ hm
  obtain ⟨a4, V4, g4, b4⟩ := arg_open (τ := (.int .i64)) (by kernel_rfl) (hval 4 3 v4 rfl rfl) h4 hsz (j := 4) rfl rfl
  have k5 := h5
  have lt5 : ∀ x ∈ p5, x.block < W.heap.size := by obtain ⟨m, hm⟩ := k5; exact DataW.trod_lt m _ _ _ hm
  obtain ⟨a5, V5, g5, b5⟩ := arg_open (τ := (.list false 85 (.prod (.int .i64) (.prod (.int .i64) (.prod .bool (.prod .bool (.prod .bool (.prod .bool .bool)))))))) (by kernel_rfl) (hval 5 47 v5 rfl rfl) h5 hsz (j := 5) rfl rfl
  clear hA0 hval0 hsz
  have hf := Pure.RunAims a0 a1 a2 a3 a4 a5 g0 g1 g2 g3 g4 g5
  obtain ⟨fn, hfn, _, hc⟩ := (callL_ok (P := Tryz.prog) (S := S) okAll (f := 3) (g := s3) (args := [argPV Tryz.prog 35 (.prod (.prod (.int .i64) (.int .i64)) (.prod (.prod (.int .i64) (.prod (.int .i64) (.prod (.int .i64) (.int .i64)))) (.prod (.int .i64) (.prod (.int .i64) (.prod (.int .i64) (.prod (.prod (.int .i64) (.prod (.int .i64) (.int .i64))) (.prod (.prod (.int .i64) (.prod (.int .i64) (.int .i64))) (.prod (.int .i64) (.list false 3 (.int .i64)))))))))) a0, argPV Tryz.prog 41 (.prod (.prod (.int .i64) (.prod (.int .i64) (.prod (.int .i64) (.int .i64)))) (.prod (.prod (.int .i64) (.prod (.int .i64) (.prod (.int .i64) (.int .i64)))) (.prod (.int .i64) (.int .i64)))) a1, argPV Tryz.prog 45 (.prod (.list false 155 (.prod .str (.int .i64))) (.list false 106 (.prod (.int .i64) (.prod (.int .i64) (.prod (.prod (.int .i64) (.prod (.int .i64) (.int .i64))) (.prod (.int .i64) (.prod (.int .i64) (.prod (.int .i64) (.prod (.int .i64) (.prod (.int .i64) (.prod (.int .i64) (.prod (.int .i64) (.int .i64))))))))))))) a2, argPV Tryz.prog 46 (.list false 93 (.prod (.int .i64) (.prod (.int .i64) (.prod (.int .i64) (.int .i64))))) a3, argPV Tryz.prog 3 (.int .i64) a4, argPV Tryz.prog 47 (.list false 85 (.prod (.int .i64) (.prod (.int .i64) (.prod .bool (.prod .bool (.prod .bool (.prod .bool .bool))))))) a5]) (x := true) hf).1 rfl
  rw [Tryz.func3] at hfn
  cases hfn
  have hargs2 : VRs (fun _ => undef) (fun _ => False) W [argPV Tryz.prog 35 (.prod (.prod (.int .i64) (.int .i64)) (.prod (.prod (.int .i64) (.prod (.int .i64) (.prod (.int .i64) (.int .i64)))) (.prod (.int .i64) (.prod (.int .i64) (.prod (.int .i64) (.prod (.prod (.int .i64) (.prod (.int .i64) (.int .i64))) (.prod (.prod (.int .i64) (.prod (.int .i64) (.int .i64))) (.prod (.int .i64) (.list false 3 (.int .i64)))))))))) a0, argPV Tryz.prog 41 (.prod (.prod (.int .i64) (.prod (.int .i64) (.prod (.int .i64) (.int .i64)))) (.prod (.prod (.int .i64) (.prod (.int .i64) (.prod (.int .i64) (.int .i64)))) (.prod (.int .i64) (.int .i64)))) a1, argPV Tryz.prog 45 (.prod (.list false 155 (.prod .str (.int .i64))) (.list false 106 (.prod (.int .i64) (.prod (.int .i64) (.prod (.prod (.int .i64) (.prod (.int .i64) (.int .i64))) (.prod (.int .i64) (.prod (.int .i64) (.prod (.int .i64) (.prod (.int .i64) (.prod (.int .i64) (.prod (.int .i64) (.prod (.int .i64) (.int .i64))))))))))))) a2, argPV Tryz.prog 46 (.list false 93 (.prod (.int .i64) (.prod (.int .i64) (.prod (.int .i64) (.int .i64))))) a3, argPV Tryz.prog 3 (.int .i64) a4, argPV Tryz.prog 47 (.list false 85 (.prod (.int .i64) (.prod (.int .i64) (.prod .bool (.prod .bool (.prod .bool (.prod .bool .bool))))))) a5] [v0, v1, v2, v3, v4, v5] := by
    exact vrs_cons V0 (vrs_cons V1 (vrs_cons V2 (vrs_cons V3 (vrs_cons V4 (vrs_cons V5 (vrs_nil))))))
  refine (hc W (fun _ => False) [v0, v1, v2, v3, v4, v5] (fun _ q => q.elim) hargs2).mono fun e W' hp => ?_
  obtain ⟨he, bel⟩ := post_bool (rt := 4) (by kernel_rfl) (by kernel_rfl) hp
  subst he
  exact ⟨_, rfl, _, _, _, [], _, [], hW', trodAll_mk1 (shut_bool Tryz.underlying4 _), (trodAll_cons_mk (Below.trod laidOut (by kernel_rfl) (of_decide_eq_true (by kernel_rfl)) k0 bel lt0) (trodAll_cons_mk (Below.trod laidOut (by kernel_rfl) (of_decide_eq_true (by kernel_rfl)) k1 bel lt1) (trodAll_cons_mk (Below.trod laidOut (by kernel_rfl) (of_decide_eq_true (by kernel_rfl)) k2 bel lt2) (trodAll_cons_mk (Below.trod laidOut (by kernel_rfl) (of_decide_eq_true (by kernel_rfl)) k3 bel lt3) (trodAll_cons_mk (Below.trod laidOut (by kernel_rfl) (of_decide_eq_true (by kernel_rfl)) k4 bel lt4) (trodAll_cons_mk (Below.trod laidOut (by kernel_rfl) (of_decide_eq_true (by kernel_rfl)) k5 bel lt5) trodAll_mk0)))))), rfl, bel.frame _, fun h => by cases h⟩
set_option maxRecDepth 100000 in
theorem lifted (os : Os) (started : os.Started) (H : Type) (enc : TypeId × Value → H) :
    ReturnsInHanded {} Tryz.checked os 3 .any (Rows.runAimsSpec.pre6 enc Tryz.prog Tryz.f3 Rows.runAimsRow.domain false) (Rows.runAimsSpec.post enc Tryz.prog Tryz.f3 false true false false) := by
  refine returnsInHanded_of_change_sized (C := Tryz.checked) own started (by kernel_rfl) Tryz.func3
    (ChangeSpec.witness6 (enc := enc) (C := Tryz.checked) false ⟨#[], #[.agg #[.int .i64 0, .int .i64 0, .int .i64 0, .int .i64 0, .int .i64 0, .int .i64 0, .int .i64 0, .int .i64 0, .int .i64 0, .int .i64 0, .int .i64 0, .int .i64 0, .int .i64 0, .int .i64 0, .int .i64 0, .int .i64 0, .slice none 0 0], .agg #[.int .i64 0, .int .i64 0, .int .i64 0, .int .i64 0, .int .i64 0, .int .i64 0, .int .i64 0, .int .i64 0, .int .i64 0, .int .i64 0], .agg #[.slice none 0 0, .slice none 0 0], .slice none 0 0, .int .i64 0, .slice none 0 0], []⟩ 8 (by kernel_rfl) (by kernel_rfl) (by kernel_rfl) (by kernel_rfl)) ?_
  intro W base args ds gs before hval0 hW hcnd hsz0 _
  exact contract H enc W base args ds gs before hval0 hW hsz0
/-- What is alone when it returns has left nobody but such as are leaving. -/
theorem holds_leaving {p : Pinned} {s : OpenSpec} {c : OpenClaim} (hst : c.start = .entering) (hsp : c.stops = []) (hl : c.leaving = false) (hwf : ({ c with leaving := true } : OpenClaim).wf s = true) (h : c.holds p s) : ({ c with leaving := true } : OpenClaim).holds p s := by
  unfold OpenClaim.holds at h ⊢
  obtain ⟨_, a2, a3, a4, a5, a6, a7, a8, f, fn, g1, g2, r, b1, b2, b3, b4, b5, k, c1, c2, c3, c4, c5, c6, m, l, q, n1, v1, e1, L, hL, all⟩ := h
  refine ⟨hwf, a2, a3, a4, a5, a6, a7, a8, f, fn, g1, g2, r, b1, b2, b3, b4, b5, k, c1, c2, c3, c4, c5, c6, m, l, q, n1, v1, e1, L, hL, fun os x y H enc inj => ?_⟩
  have h0 := all os x y H enc inj
  have e1 : ({ c with leaving := true } : OpenClaim).start = .entering := hst
  have e2 : ({ c with leaving := true } : OpenClaim).stops = [] := hsp
  unfold OpenClaim.form at h0 ⊢
  rw [hst, hsp] at h0
  rw [e1, e2]
  intro F
  refine ReturnsInOpen.mono (fun last w t q => ?_) (fun _ x => x) (h0 F)
  have q' : aloneAtReturn p.checked.prog last w t := by
    have e3 : c.atReturn p.checked.prog = aloneAtReturn p.checked.prog := by unfold OpenClaim.atReturn; rw [hl]
    rw [← e3]
    exact q
  exact ⟨q'.2.1, onlyLeaving_of_quiet q'.1, q'.2.2⟩
theorem and_mk {a b : Bool} (h : a = true) (k : b = true) : (a && b) = true := by rw [h, k]; rfl
/-- The row as if nobody might be left. -/
def row0 : OpenClaim := { Rows.runAimsRow with leaving := false }
set_option maxHeartbeats 8000000 in
set_option maxRecDepth 100000 in
/-- Part by part: a large program asks too much of the kernel at once. -/
theorem closed_ : joinedFacts Tryz.pinned.checked.prog 3 Tryz.f3 Rows.runAimsSpec row0 = true := by
  unfold joinedFacts
  repeat' (with_reducible refine and_mk ?_ ?_)
  all_goals (as_aux_lemma => kernel_rfl)
theorem over0 : row0.holds Tryz.pinned (OpenSpec.ofChange Rows.runAimsSpec) :=
  OpenClaim.holds_of_wide 3 Tryz.f3 rfl rfl rfl rfl rfl rfl rfl ⟨rfl, rfl, rfl, rfl, rfl⟩ rfl rfl rfl rfl rfl (by kernel_rfl) Tryz.func3 closed_
    (of_decide_eq_true (by kernel_rfl)) (by unfold Func.isWrapper; first | (rw [if_pos (by decide +kernel)]; kernel_rfl) | (rw [if_neg (by decide +kernel)]; exact ⟨rfl, rfl⟩))
    (fun os started H enc _ => lifted os started H enc)
theorem over : ({ row0 with leaving := true } : OpenClaim).holds Tryz.pinned (OpenSpec.ofChange Rows.runAimsSpec) := holds_leaving rfl rfl rfl (by kernel_rfl) over0
theorem proved : Rows.RunAimsSaid := over
#print axioms proved
end Go.Proofs.YtiolbobjobjimaaGreat.runAims
namespace Go.Proofs.YtiolbobjobjimaaGreat
/-- The row, under a short name, for the claim. -/
theorem runAims_holds : Rows.RunAimsSaid := runAims.proved
end Go.Proofs.YtiolbobjobjimaaGreat
