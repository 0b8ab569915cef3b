/- WhyCounts: the pure statement, proved. -/
import Derived.Test.YtdcdbdlleojaaaaEA0
import Derived.Test.YtdcdbdlleojaaaaEA1
import Derived.Test.YtdcdbdlleojaaaaEA2
import Derived.Test.YtdcdbdlleojaaaaEA3
import Derived.Test.YtdcdbdlleojaaaaEA4
import Derived.Test.YtdcdbdlleojaaaaPl
namespace Go.Proofs.Ytdcdbdlleojaaaa.Pure
set_option linter.unusedVariables false
set_option linter.unusedSimpArgs false
open Go Go.RowKit Go.Proofs.Ytdcdbdlleojaaaa.Pv Go.Proofs.Ytdcdbdlleojaaaa.Pl Go.Proofs.Ytdcdbdlleojaaaa.EA

theorem equal_ints (a b : List Int) (hb : a.length < 9223372036854775807) : slices_Equal_int_int a b = some (decide (a = b)) := by
  rw [slices_Equal_int_int_eq]
  by_cases h : a.length = b.length
  · rw [if_neg (by rw [ne_t]; omega)]
    refine equal_run 0 (fun x y => x == y) (fun x y => by simp) a b h hb (fun i => slices_Equal_int_int.p4 a b (a.length : Int) i) (fun i => ?_)
    rw [slices_Equal_int_int.p4_eq]
    rfl
  · rw [if_pos (by rw [ne_t]; omega)]
    have : a ≠ b := fun e => h (by rw [e])
    simp [this]
abbrev Reason := Int × Int × Int × Int × Int × Int × Int
def bump (xs : List Int) (r : Reason) : List Int := if 0 ≤ r.2.2.1 ∧ r.2.2.1 ≤ 7 then xs.set r.2.2.1.toNat (IntKind.i64.wrap (xs.getD r.2.2.1.toNat 0 + 1)) else xs
theorem bump_len (xs : List Int) (r : Reason) : (bump xs r).length = xs.length := by
  unfold bump
  split <;> simp
theorem bump_in {xs : List Int} {r : Reason} (h : 0 ≤ r.2.2.1 ∧ r.2.2.1 ≤ 7) : bump xs r = xs.set r.2.2.1.toNat (IntKind.i64.wrap (xs.getD r.2.2.1.toNat 0 + 1)) := if_pos h
theorem bump_out {xs : List Int} {r : Reason} (h : ¬ (0 ≤ r.2.2.1 ∧ r.2.2.1 ≤ 7)) : bump xs r = xs := if_neg h
theorem count_run (l : List Reason) (hl : l.length < 9223372036854775807) : ∀ (d i : Nat) (xs : List Int), xs.length = 8 → i + d = l.length → why_Count.p3 l (l.length : Int) (i : Int) xs = some ((l.drop i).foldl bump xs)
  | 0, i, xs, _, h => by
    rw [why_Count.p3_eq, if_neg (by rw [dt]; omega), List.drop_eq_nil_of_le (by omega)]
    rfl
  | d + 1, i, xs, hx, h => by
    have h1 : i < l.length := by omega
    have ih := count_run l hl d (i + 1) (bump xs l[i]) (by rw [bump_len]; exact hx) (by omega)
    rw [why_Count.p3_eq, if_pos (by rw [dt]; omega), if_pos (by omega), if_pos (by omega), wi_nat (by omega), getD_int _ l h1, List.drop_eq_getElem_cons h1, List.foldl_cons]
    simp only [dt]
    by_cases c0 : 0 ≤ l[i].2.2.1
    · by_cases c1 : l[i].2.2.1 ≤ 7
      · rw [bump_in ⟨c0, c1⟩] at ih ⊢
        simp (disch := omega) only [if_pos]
        exact ih
      · rw [bump_out (fun c => c1 c.2)] at ih ⊢
        simp (disch := omega) only [if_pos, if_neg]
        exact ih
    · rw [bump_out (fun c => c0 c.1)] at ih ⊢
      simp (disch := omega) only [if_neg]
      exact ih
theorem law_run (l : List Reason) (hl : l.length < 9223372036854775807) (hc : why_Count l = some (l.foldl bump (List.replicate 8 0))) : ∀ (d i : Nat) (xs : List Int), xs.length = 8 → i + d = l.length → (l.drop i).foldl bump xs = l.foldl bump (List.replicate 8 0) → spylaw2_WhyCounts.p5 l l (l.length : Int) (i : Int) xs = some true
  | 0, i, xs, hx, h, he => by
    rw [List.drop_eq_nil_of_le (by omega), List.foldl_nil] at he
    rw [spylaw2_WhyCounts.p5_eq, if_neg (by rw [dt]; omega), hc, bind_some_, equal_ints _ _ (by rw [← he, hx]; omega), bind_some_, he]
    simp
  | d + 1, i, xs, hx, h, he => by
    have h1 : i < l.length := by omega
    rw [List.drop_eq_getElem_cons h1, List.foldl_cons] at he
    have ih := law_run l hl hc d (i + 1) (bump xs l[i]) (by rw [bump_len]; exact hx) (by omega) he
    rw [spylaw2_WhyCounts.p5_eq, if_pos (by rw [dt]; omega), if_pos (by omega), if_pos (by omega), wi_nat (by omega), getD_int _ l h1, spyref2_In_eq]
    simp only [dt, bind_ite, bind_some_, Bool.false_eq_true, if_false]
    by_cases c0 : 0 ≤ l[i].2.2.1
    · by_cases c1 : l[i].2.2.1 ≤ 7
      · rw [bump_in ⟨c0, c1⟩] at ih
        simp (disch := omega) only [if_pos]
        exact ih
      · rw [bump_out (fun c => c1 c.2)] at ih
        simp (disch := omega) only [if_pos, if_neg]
        exact ih
    · rw [bump_out (fun c => c0 c.1)] at ih
      simp (disch := omega) only [if_neg]
      exact ih
theorem whys_true : spylaw2_whys = some true := callL_some.2 ⟨20, by kernel_rfl⟩
theorem WhyCounts : ∀ (x0 : List (Int × Int × Int × Int × Int × Int × Int)), goodT Try.prog (.list false 26 (.prod (.int .i64) (.prod (.int .i64) (.prod (.int .i64) (.prod (.int .i64) (.prod (.int .i64) (.prod (.int .i64) (.int .i64)))))))) x0 → spylaw2_WhyCounts x0 = some true := by
  intro l hl
  rw [goodT] at hl
  have hb : Try.prog.bytesOf 26 = 56 := by kernel_rfl
  rw [hb] at hl
  obtain ⟨_, h2, _⟩ := hl
  have h3 : l.length < 9223372036854775807 := by omega
  rw [spylaw2_WhyCounts_eq, whys_true, bind_some_, if_neg (by simp)]
  refine law_run l h3 ?_ l.length 0 _ rfl (by omega) rfl
  rw [why_Count_eq]
  exact count_run l h3 l.length 0 _ rfl (by omega)

end Go.Proofs.Ytdcdbdlleojaaaa.Pure
