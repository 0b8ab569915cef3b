/- The law PipeAlerts holds: for every input that can be read, the call returns true and leaves the arguments as they were. No conditions. -/
import Derived.Test.YtfnflhfdpbekeaaGreatDoorRows
import Derived.Test.YtfnflhfdpbekeaaGreatDoorPv23
import Derived.Test.YtfnflhfdpbekeaaGreatDoorPurePipeAlerts
import Derived.Test.YtfnflhfdpbekeaaGreatDoorCards
import Derived.Test.YtfnflhfdpbekeaaGreatDoorTie
import Derived.WalkKit
import Derived.ProofKit
import Derived.OpenShut
import Derived.ShutString
import Derived.ChangeOld
import Derived.Below
import Derived.SizedLaws
import Derived.Carry
import Derived.KernelRfl
import Derived.Leaving
import Derived.ClaimOpenTies
import Derived.LaidMore
import Derived.LaidLaws
import Derived.LaidHandle
import Derived.Stop.Joined
import Derived.SevenTiedAt
import Derived.ChangeVars
import Derived.ChangeSame
import Derived.LaidSub
import Derived.MakeChecks
import Derived.Lib.LaidTab
import Derived.Lay
namespace Go.Proofs.YtfnflhfdpbekeaaGreatDoor.pipeAlerts
open Go.ChangeShapes Go.WideShapes Go.ChangeAt Go.RowKit Go.Proofs.YtfnflhfdpbekeaaGreatDoor.Pv Go.Proofs.YtfnflhfdpbekeaaGreatDoor.EA
set_option linter.unusedVariables false
set_option linter.unusedSimpArgs false
theorem own : ownKnob Tryz.prog.godebug = none := by kernel_rfl
theorem laidOut : laidOutB Tryz.prog = true := by kernel_rfl
theorem okAll {W0 : World} : OkS Tryz.prog S W0 := OkS.of (by kernel_rfl) (by kernel_rfl)
set_option maxRecDepth 100000 in
theorem contract (H : Type) (enc : TypeId × Value → H) (W : World) (base : Nat) (args : Array Value) (ds gs : List (DataW H)) (before : List MemPlace)
    (hval0 : ∀ (j : Nat) t v, Tryz.f3.params[j]? = some t → args[j]? = some v → Value.okWide Tryz.prog W .any base t v)
    (hW : DataW.Whole enc Tryz.prog Tryz.f3.params.toList Rows.pipeAlertsSpec.vars false W args.toList ds gs before) (hsz : (DataW.weightsEach Tryz.prog (Tryz.f3.params.toList ++ Rows.pipeAlertsSpec.plain.varTypes Tryz.prog) (ds ++ gs)).all (· ≤ reachBytes) = true) :
    Calls Tryz.prog 3 args W fun e W' => ∃ v, e = .returned v ∧ Rows.pipeAlertsSpec.post enc Tryz.prog Tryz.f3 false true false false W args v W' := by
  have hval : ∀ (j : Nat) t v, Tryz.f3.params[j]? = some t → args[j]? = some v → Value.okWide Tryz.prog W .any base t v := hval0
  have hW' := hW
  obtain ⟨p, q, hA0, hV, rfl, hfz, hnd⟩ := hW
  have hA : DataW.TrodAll enc Tryz.prog W 0 (fun _ => true) true Tryz.f3.params.toList args.toList ds p := hA0
  rw [Tryz.params3] at hA hval hsz
  obtain ⟨v0, vs0, d0, ds0, p0, q0, hargs, rfl, rfl, h0, r0⟩ := trodAll_cons hA
  obtain ⟨v1, vs1, d1, ds1, p1, q1, rfl, rfl, rfl, h1, r1⟩ := trodAll_cons r0
  obtain ⟨v2, vs2, d2, ds2, p2, q2, rfl, rfl, rfl, h2, r2⟩ := trodAll_cons r1
  obtain ⟨v3, vs3, d3, ds3, p3, q3, rfl, rfl, rfl, h3, r3⟩ := trodAll_cons r2
  obtain ⟨v4, vs4, d4, ds4, p4, q4, rfl, rfl, rfl, h4, r4⟩ := trodAll_cons r3
  obtain ⟨rfl, rfl, rfl⟩ := trodAll_nil r4
  obtain rfl : args = #[v0, v1, v2, v3, v4] := by cases args; simp_all
  obtain ⟨rfl, rfl⟩ := trodVars_none hV
  have k0 := h0
  have lt0 : ∀ x ∈ p0, x.block < W.heap.size := by obtain ⟨m, hm⟩ := k0; exact DataW.trod_lt m _ _ _ hm
  obtain ⟨a0, V0, g0, b0⟩ := arg_open (τ := (.list false 68 (.prod (.int .i64) (.prod (.prod (.prod (.int .i64) (.prod (.int .i64) .bool)) (.prod (.prod (.int .i64) (.prod (.int .i64) .bool)) (.prod (.int .i64) (.prod (.int .i64) .bool)))) (.prod (.prod (.int .i64) (.prod (.int .i64) .bool)) (.prod (.prod (.int .i64) (.prod (.int .i64) .bool)) (.prod (.list false 3 (.int .i64)) (.int .i64)))))))) (by kernel_rfl) (hval 0 22 v0 rfl rfl) h0 hsz (j := 0) rfl rfl
  have k1 := h1
  have lt1 : ∀ x ∈ p1, x.block < W.heap.size := by obtain ⟨m, hm⟩ := k1; exact DataW.trod_lt m _ _ _ hm
  obtain ⟨a1, V1, g1, b1⟩ := arg_open (τ := (.list false 68 (.prod (.int .i64) (.prod (.prod (.prod (.int .i64) (.prod (.int .i64) .bool)) (.prod (.prod (.int .i64) (.prod (.int .i64) .bool)) (.prod (.int .i64) (.prod (.int .i64) .bool)))) (.prod (.prod (.int .i64) (.prod (.int .i64) .bool)) (.prod (.prod (.int .i64) (.prod (.int .i64) .bool)) (.prod (.list false 3 (.int .i64)) (.int .i64)))))))) (by kernel_rfl) (hval 1 22 v1 rfl rfl) h1 hsz (j := 1) rfl rfl
  have k2 := h2
  have lt2 : ∀ x ∈ p2, x.block < W.heap.size := by obtain ⟨m, hm⟩ := k2; exact DataW.trod_lt m _ _ _ hm
  obtain ⟨a2, V2, g2, b2⟩ := arg_open (τ := (.prod (.int .i64) (.prod (.int .i64) .bool))) (by kernel_rfl) (hval 2 25 v2 rfl rfl) h2 hsz (j := 2) rfl rfl
  have k3 := h3
  have lt3 : ∀ x ∈ p3, x.block < W.heap.size := by obtain ⟨m, hm⟩ := k3; exact DataW.trod_lt m _ _ _ hm
  obtain ⟨a3, V3, g3, b3⟩ := arg_open (τ := (.int .i64)) (by kernel_rfl) (hval 3 3 v3 rfl rfl) h3 hsz (j := 3) rfl rfl
  have k4 := h4
  have lt4 : ∀ x ∈ p4, x.block < W.heap.size := by obtain ⟨m, hm⟩ := k4; exact DataW.trod_lt m _ _ _ hm
  obtain ⟨a4, V4, g4, b4⟩ := arg_open (τ := (.int .i64)) (by kernel_rfl) (hval 4 26 v4 rfl rfl) h4 hsz (j := 4) rfl rfl
  clear hA0 hval0 hsz
  have hf := Pure.PipeAlerts a0 a1 a2 a3 a4 g0 g1 g2 g3 g4
  obtain ⟨fn, hfn, _, hc⟩ := (callL_ok (P := Tryz.prog) (S := S) (W0 := W) okAll (f := 3) (g := s3) (args := [argPV Tryz.prog 22 (.list false 68 (.prod (.int .i64) (.prod (.prod (.prod (.int .i64) (.prod (.int .i64) .bool)) (.prod (.prod (.int .i64) (.prod (.int .i64) .bool)) (.prod (.int .i64) (.prod (.int .i64) .bool)))) (.prod (.prod (.int .i64) (.prod (.int .i64) .bool)) (.prod (.prod (.int .i64) (.prod (.int .i64) .bool)) (.prod (.list false 3 (.int .i64)) (.int .i64))))))) a0, argPV Tryz.prog 22 (.list false 68 (.prod (.int .i64) (.prod (.prod (.prod (.int .i64) (.prod (.int .i64) .bool)) (.prod (.prod (.int .i64) (.prod (.int .i64) .bool)) (.prod (.int .i64) (.prod (.int .i64) .bool)))) (.prod (.prod (.int .i64) (.prod (.int .i64) .bool)) (.prod (.prod (.int .i64) (.prod (.int .i64) .bool)) (.prod (.list false 3 (.int .i64)) (.int .i64))))))) a1, argPV Tryz.prog 25 (.prod (.int .i64) (.prod (.int .i64) .bool)) a2, argPV Tryz.prog 3 (.int .i64) a3, argPV Tryz.prog 26 (.int .i64) a4]) (x := true) hf).1 rfl
  rw [Tryz.func3] at hfn
  cases hfn
  have hargs2 : VRs (fun _ => undef) (fun _ => False) W [argPV Tryz.prog 22 (.list false 68 (.prod (.int .i64) (.prod (.prod (.prod (.int .i64) (.prod (.int .i64) .bool)) (.prod (.prod (.int .i64) (.prod (.int .i64) .bool)) (.prod (.int .i64) (.prod (.int .i64) .bool)))) (.prod (.prod (.int .i64) (.prod (.int .i64) .bool)) (.prod (.prod (.int .i64) (.prod (.int .i64) .bool)) (.prod (.list false 3 (.int .i64)) (.int .i64))))))) a0, argPV Tryz.prog 22 (.list false 68 (.prod (.int .i64) (.prod (.prod (.prod (.int .i64) (.prod (.int .i64) .bool)) (.prod (.prod (.int .i64) (.prod (.int .i64) .bool)) (.prod (.int .i64) (.prod (.int .i64) .bool)))) (.prod (.prod (.int .i64) (.prod (.int .i64) .bool)) (.prod (.prod (.int .i64) (.prod (.int .i64) .bool)) (.prod (.list false 3 (.int .i64)) (.int .i64))))))) a1, argPV Tryz.prog 25 (.prod (.int .i64) (.prod (.int .i64) .bool)) a2, argPV Tryz.prog 3 (.int .i64) a3, argPV Tryz.prog 26 (.int .i64) a4] [v0, v1, v2, v3, v4] := by
    exact vrs_cons V0 (vrs_cons V1 (vrs_cons V2 (vrs_cons V3 (vrs_cons V4 (vrs_nil)))))
  refine (hc W (fun _ => False) [v0, v1, v2, v3, v4] (Beneath.refl _ _) (fun _ q => q.elim) hargs2).mono fun e W' hp => ?_
  obtain ⟨he, bel⟩ := post_bool (rt := 4) (by kernel_rfl) (by kernel_rfl) hp
  subst he
  exact ⟨_, rfl, _, _, _, [], _, [], hW', trodAll_mk1 (shut_bool Tryz.underlying4 _), (trodAll_cons_mk (Below.trod laidOut (by kernel_rfl) (of_decide_eq_true (by kernel_rfl)) k0 bel lt0) (trodAll_cons_mk (Below.trod laidOut (by kernel_rfl) (of_decide_eq_true (by kernel_rfl)) k1 bel lt1) (trodAll_cons_mk (Below.trod laidOut (by kernel_rfl) (of_decide_eq_true (by kernel_rfl)) k2 bel lt2) (trodAll_cons_mk (Below.trod laidOut (by kernel_rfl) (of_decide_eq_true (by kernel_rfl)) k3 bel lt3) (trodAll_cons_mk (Below.trod laidOut (by kernel_rfl) (of_decide_eq_true (by kernel_rfl)) k4 bel lt4) trodAll_mk0))))), rfl, bel.frame _, fun h => by cases h⟩
theorem door_met (os : Os) (args : Array Value) : laidMetH Tryz.prog [("math/bits.deBruijn32tab", Rows.laid_math_bits_deBruijn32tab), ("math/bits.deBruijn64tab", Rows.laid_math_bits_deBruijn64tab), ("internal/strconv.uint64pow10", Rows.laid_internal_strconv_uint64pow10), ("unicode/utf8.acceptRanges", Rows.laid_unicode_utf8_acceptRanges), ("strconv.ErrRange", Rows.laid_strconv_ErrRange), ("strconv.ErrSyntax", Rows.laid_strconv_ErrSyntax), ("unicode.White_Space", Rows.laid_unicode_White_Space), ("strings.asciiSpace", Rows.laid_strings_asciiSpace), ("unicode/utf8.first", Rows.laid_unicode_utf8_first)] ((World.laidAll Tryz.prog os [("math/bits.deBruijn32tab", Rows.laid_math_bits_deBruijn32tab), ("math/bits.deBruijn64tab", Rows.laid_math_bits_deBruijn64tab), ("internal/strconv.uint64pow10", Rows.laid_internal_strconv_uint64pow10), ("unicode/utf8.acceptRanges", Rows.laid_unicode_utf8_acceptRanges), ("strconv.ErrRange", Rows.laid_strconv_ErrRange), ("strconv.ErrSyntax", Rows.laid_strconv_ErrSyntax), ("unicode.White_Space", Rows.laid_unicode_White_Space), ("strings.asciiSpace", Rows.laid_strings_asciiSpace), ("unicode/utf8.first", Rows.laid_unicode_utf8_first)]).forCall (fun _ _ => 0) ⟨#[], args, []⟩).memory :=
  by rw [MakeChecks.laidMetH_plain _ _ _ (by kernel_rfl)]; exact laidMet_laidAll _ (by kernel_rfl) (by kernel_rfl)
set_option maxRecDepth 100000 in
theorem lifted (os : Os) (started : os.Started) (H : Type) (enc : TypeId × Value → H) :
    ReturnsInHanded {} Tryz.checked os 3 .any (fun w args => (Rows.pipeAlertsSpec.pre enc Tryz.prog Tryz.f3 [] false w args ∧ laidMetH Tryz.prog [("math/bits.deBruijn32tab", Rows.laid_math_bits_deBruijn32tab), ("math/bits.deBruijn64tab", Rows.laid_math_bits_deBruijn64tab), ("internal/strconv.uint64pow10", Rows.laid_internal_strconv_uint64pow10), ("unicode/utf8.acceptRanges", Rows.laid_unicode_utf8_acceptRanges), ("strconv.ErrRange", Rows.laid_strconv_ErrRange), ("strconv.ErrSyntax", Rows.laid_strconv_ErrSyntax), ("unicode.White_Space", Rows.laid_unicode_White_Space), ("strings.asciiSpace", Rows.laid_strings_asciiSpace), ("unicode/utf8.first", Rows.laid_unicode_utf8_first)] w) ∧ sizedMet enc Tryz.prog Tryz.f3 (OpenSpec.ofChange Rows.pipeAlertsSpec) false w args) (Rows.pipeAlertsSpec.post enc Tryz.prog Tryz.f3 false true false false) := by
  refine returnsInHanded_of_change_and (C := Tryz.checked) (X := fun w _ => laidMetH Tryz.prog [("math/bits.deBruijn32tab", Rows.laid_math_bits_deBruijn32tab), ("math/bits.deBruijn64tab", Rows.laid_math_bits_deBruijn64tab), ("internal/strconv.uint64pow10", Rows.laid_internal_strconv_uint64pow10), ("unicode/utf8.acceptRanges", Rows.laid_unicode_utf8_acceptRanges), ("strconv.ErrRange", Rows.laid_strconv_ErrRange), ("strconv.ErrSyntax", Rows.laid_strconv_ErrSyntax), ("unicode.White_Space", Rows.laid_unicode_White_Space), ("strings.asciiSpace", Rows.laid_strings_asciiSpace), ("unicode/utf8.first", Rows.laid_unicode_utf8_first)] w) (fun _ _ _ hh h => h.of_heap hh) own started (by kernel_rfl) Tryz.func3
    (ChangeSpec.witness_shaped (enc := enc) (C := Tryz.checked) (os := os) (X := fun w _ => laidMetH Tryz.prog [("math/bits.deBruijn32tab", Rows.laid_math_bits_deBruijn32tab), ("math/bits.deBruijn64tab", Rows.laid_math_bits_deBruijn64tab), ("internal/strconv.uint64pow10", Rows.laid_internal_strconv_uint64pow10), ("unicode/utf8.acceptRanges", Rows.laid_unicode_utf8_acceptRanges), ("strconv.ErrRange", Rows.laid_strconv_ErrRange), ("strconv.ErrSyntax", Rows.laid_strconv_ErrSyntax), ("unicode.White_Space", Rows.laid_unicode_White_Space), ("strings.asciiSpace", Rows.laid_strings_asciiSpace), ("unicode/utf8.first", Rows.laid_unicode_utf8_first)] w) false (World.laidAll Tryz.prog os [("math/bits.deBruijn32tab", Rows.laid_math_bits_deBruijn32tab), ("math/bits.deBruijn64tab", Rows.laid_math_bits_deBruijn64tab), ("internal/strconv.uint64pow10", Rows.laid_internal_strconv_uint64pow10), ("unicode/utf8.acceptRanges", Rows.laid_unicode_utf8_acceptRanges), ("strconv.ErrRange", Rows.laid_strconv_ErrRange), ("strconv.ErrSyntax", Rows.laid_strconv_ErrSyntax), ("unicode.White_Space", Rows.laid_unicode_White_Space), ("strings.asciiSpace", Rows.laid_strings_asciiSpace), ("unicode/utf8.first", Rows.laid_unicode_utf8_first)]) #[.slice none 0 0, .slice none 0 0, .agg #[.int .i64 0, .int .i64 0, .bool false], .int .i64 0, .int .i64 0] 8 (World.laidAll_os _ _ _) (World.shaped_of_ZipB (by kernel_rfl) (by kernel_rfl)) (by kernel_rfl) (by kernel_rfl) (by kernel_rfl) (door_met os _)) ?_
  intro W base args ds gs before hval0 hW hcnd hsz0 hL _
  exact contract H enc W base args ds gs before hval0 hW hsz0
theorem and_mk {a b : Bool} (h : a = true) (k : b = true) : (a && b) = true := by rw [h, k]; rfl
set_option maxHeartbeats 8000000 in
set_option maxRecDepth 100000 in
/-- Part by part: a large program asks too much of the kernel at once. -/
theorem closed_ : joinedFacts Tryz.pinned.checked.prog 3 Tryz.f3 Rows.pipeAlertsSpec Rows.pipeAlertsRow = true := by
  unfold joinedFacts
  repeat' (with_reducible refine and_mk ?_ ?_)
  all_goals (as_aux_lemma => kernel_rfl)
theorem over : Rows.pipeAlertsRow.holds Tryz.pinned (OpenSpec.ofChange Rows.pipeAlertsSpec) :=
  OpenClaim.holds_of_wide 3 Tryz.f3 rfl rfl rfl rfl rfl rfl rfl ⟨rfl, rfl, rfl, rfl, rfl⟩ rfl rfl rfl rfl rfl (by kernel_rfl) Tryz.func3 closed_
    (of_decide_eq_true (by kernel_rfl)) (by unfold Func.isWrapper; first | (rw [if_pos (by decide +kernel)]; kernel_rfl) | (rw [if_neg (by decide +kernel)]; exact ⟨rfl, rfl⟩))
    (fun os started H enc _ => lifted os started H enc)
theorem row_ : Rows.PipeAlertsSaid := over
theorem card_holds : Rows.PipeAlertsCardSaid :=
  Claim7.holds_tied_plain_at .later [] [.data, .data, .data, .data, .sentinel, .sentinel, .listed, .data, .pinned] true (true, "3d1a23e64cdca71fade801c567dd57b7f9192e17bbe9224fea634f8ae83a06c1") true
    row_ (fun _ h => by cases h) (by kernel_rfl) (fun _ h => by cases h) pipeAlerts_row_tie rfl ⟨rfl, rfl⟩ (by kernel_rfl) rfl
    (fun f fn hf hfn => by
      obtain rfl : f = 3 := Option.some.inj ((show Tryz.prog.funcNamed "spyglass/spylaw2.PipeAlerts" = some 3 by kernel_rfl).symm.trans hf) |>.symm
      obtain rfl : fn = Tryz.f3 := (Option.some.inj (Tryz.func3.symm.trans hfn)).symm
      exact ⟨by kernel_rfl, fun j t ht => by
        rw [Tryz.params3] at ht
        have hm : t ∈ [22, 22, 25, 3, 26] := by simpa using Array.mem_of_getElem? ht
        have hall : ([22, 22, 25, 3, 26].all fun u => !Tryz.prog.wantsStandIn u) = true := by kernel_rfl
        exact (show Tryz.prog.wantsStandIn t = false by simpa using List.all_eq_true.1 hall t hm)⟩)
    (by kernel_rfl)
theorem proved : Rows.PipeAlertsCardSaid := card_holds
#print axioms proved
end Go.Proofs.YtfnflhfdpbekeaaGreatDoor.pipeAlerts
namespace Go.Proofs.YtfnflhfdpbekeaaGreatDoor
/-- The row, under a short name, for the claim. -/
theorem pipeAlerts_holds : Rows.PipeAlertsCardSaid := pipeAlerts.proved
end Go.Proofs.YtfnflhfdpbekeaaGreatDoor
