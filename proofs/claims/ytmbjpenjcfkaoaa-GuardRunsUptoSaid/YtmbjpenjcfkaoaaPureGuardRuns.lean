/- GuardRuns: the pure statement, proved. -/
import Derived.Test.YtmbjpenjcfkaoaaEA0
import Derived.Test.YtmbjpenjcfkaoaaEA1
import Derived.Test.YtmbjpenjcfkaoaaEA2
import Derived.Test.YtmbjpenjcfkaoaaEA3
import Derived.Test.YtmbjpenjcfkaoaaEA4
import Derived.Test.YtmbjpenjcfkaoaaPl
import Derived.Test.YtmbjpenjcfkaoaaLemAxis
import Derived.Test.YtmbjpenjcfkaoaaLemAxisS
import Derived.Test.YtmbjpenjcfkaoaaLemMount
import Derived.Test.YtmbjpenjcfkaoaaLemDome
import Derived.Test.YtmbjpenjcfkaoaaLemCam
import Derived.Test.YtmbjpenjcfkaoaaLemMoves
import Derived.Test.YtmbjpenjcfkaoaaLemGuard
import Derived.Test.YtmbjpenjcfkaoaaLemGuardM
import Derived.Test.YtmbjpenjcfkaoaaLemTarget
import Derived.Test.YtmbjpenjcfkaoaaLemTurn
import Derived.Test.YtmbjpenjcfkaoaaLemRun
namespace Go.Proofs.Ytmbjpenjcfkaoaa.Pure
set_option linter.unusedVariables false
set_option linter.unusedSimpArgs false
open Go Go.RowKit Go.Proofs.Ytmbjpenjcfkaoaa.Pv Go.Proofs.Ytmbjpenjcfkaoaa.Pl Go.Proofs.Ytmbjpenjcfkaoaa.EA

theorem guards_true : spylaw2_guards = some true := callL_some.2 ⟨200, by kernel_rfl⟩
abbrev InP := (List (Int × Int)) × Bool × Bool × Bool × Bool × Bool
theorem worlds_self (a : List WD) (ha : a.length < 9223372036854775807) : slices_Equal_guard_World a a = some true := by
  have key : ∀ (d i : Nat), i + d = a.length → slices_Equal_guard_World.p4 a a (a.length : Int) (i : Int) = some true := by
    intro d
    induction d with
    | zero =>
      intro i h
      rw [slices_Equal_guard_World.p4_eq, if_neg (by rw [dt]; omega)]
    | succ d ih =>
      intro i h
      have h1 : i < a.length := by omega
      rw [slices_Equal_guard_World.p4_eq, if_pos (by rw [dt]; omega), if_pos (by omega), if_pos (by omega), if_pos (by omega), if_pos (by omega), getD_int _ a h1, wi_nat (by omega), if_neg (by simp)]
      exact ih (i + 1) (by omega)
  rw [slices_Equal_guard_World_eq, if_neg (by simp)]
  exact key a.length 0 (by omega)
theorem errs_self (a : List Int) (ha : a.length < 9223372036854775807) : slices_Equal_api_Errno a a = some true := by
  have key : ∀ (d i : Nat), i + d = a.length → slices_Equal_api_Errno.p4 a a (a.length : Int) (i : Int) = some true := by
    intro d
    induction d with
    | zero =>
      intro i h
      rw [slices_Equal_api_Errno.p4_eq, if_neg (by rw [dt]; omega)]
    | succ d ih =>
      intro i h
      have h1 : i < a.length := by omega
      rw [slices_Equal_api_Errno.p4_eq, if_pos (by rw [dt]; omega), if_pos (by omega), if_pos (by omega), if_pos (by omega), if_pos (by omega), getD_int _ a h1, wi_nat (by omega), if_neg (by simp)]
      exact ih (i + 1) (by omega)
  rw [slices_Equal_api_Errno_eq, if_neg (by simp)]
  exact key a.length 0 (by omega)
theorem inner_run (os : List (Int × Int)) (hos : ∀ o, o ∈ os → (Lit.int .i64 o.2).wf = true) (hl : os.length < 9223372036854775807) (l : List InP) (n q : Int) (m : MtM) (x : InP) (out : List WD) : ∀ (d i : Nat) (w : WD) (es : List Int), i + d = os.length → es.length + d ≤ 2097152 →
    ∃ w' es', es'.length = es.length + d ∧ guard_Run.p12 l n q os (os.length : Int) (i : Int) m w x out es = guard_Run.p12 l n q os (os.length : Int) (os.length : Int) m w' x out es' ∧
      ∀ O E e9, spylaw2_GuardRuns.p15 O E e9 l n q os (os.length : Int) (i : Int) m w x out es = spylaw2_GuardRuns.p15 O E e9 l n q os (os.length : Int) (os.length : Int) m w' x out es'
  | 0, i, w, es, h, he => by
    have : i = os.length := by omega
    subst this
    exact ⟨w, es, rfl, rfl, fun _ _ _ => rfl⟩
  | d + 1, i, w, es, h, he => by
    have h1 : i < os.length := by omega
    obtain ⟨r, r1, r2⟩ := give_same m w os[i].1 os[i].2 (hos _ (List.getElem_mem h1))
    have r1' : guard_Give m w os[i] = some r := r1
    have r2' : spyref2_GuardGive m w os[i] = some r := r2
    have step : ∀ w1 : WD, ∃ w' es', es'.length = es.length + (d + 1) ∧ guard_Run.p12 l n q os (os.length : Int) ((i + 1 : Nat) : Int) m w1 x out (es ++ [r.2]) = guard_Run.p12 l n q os (os.length : Int) (os.length : Int) m w' x out es' ∧
        ∀ O E e9, spylaw2_GuardRuns.p15 O E e9 l n q os (os.length : Int) ((i + 1 : Nat) : Int) m w1 x out (es ++ [r.2]) = spylaw2_GuardRuns.p15 O E e9 l n q os (os.length : Int) (os.length : Int) m w' x out es' := by
      intro w1
      have el : (es ++ [r.2]).length = es.length + 1 := by rw [List.length_append, List.length_singleton]
      obtain ⟨w', es', a, b, c⟩ := inner_run os hos hl l n q m x out d (i + 1) w1 (es ++ [r.2]) (by omega) (by omega)
      exact ⟨w', es', by omega, b, c⟩
    by_cases z : r.2 = 0
    · obtain ⟨w', es', a, b, c⟩ := step r.1
      refine ⟨w', es', a, ?_, fun O E e9 => ?_⟩
      · rw [guard_Run.p12_eq, if_pos (by rw [dt]; omega), if_pos (by omega), if_pos (by omega), getD_int _ os h1, wi_nat (by omega), r1', bind_some_, if_pos (by rw [eq_t]; exact z), if_pos (by omega)]
        exact b
      · rw [spylaw2_GuardRuns.p15_eq, if_pos (by rw [dt]; omega), if_pos (by omega), if_pos (by omega), getD_int _ os h1, wi_nat (by omega), r2', bind_some_, if_pos (by rw [eq_t]; exact z), if_pos (by omega)]
        exact c O E e9
    · obtain ⟨w', es', a, b, c⟩ := step w
      refine ⟨w', es', a, ?_, fun O E e9 => ?_⟩
      · rw [guard_Run.p12_eq, if_pos (by rw [dt]; omega), if_pos (by omega), if_pos (by omega), getD_int _ os h1, wi_nat (by omega), r1', bind_some_, if_neg (by rw [eq_t]; exact z), if_pos (by omega)]
        exact b
      · rw [spylaw2_GuardRuns.p15_eq, if_pos (by rw [dt]; omega), if_pos (by omega), if_pos (by omega), getD_int _ os h1, wi_nat (by omega), r2', bind_some_, if_neg (by rw [eq_t]; exact z), if_pos (by omega)]
        exact c O E e9
def total (l : List InP) : Nat := (l.map fun x => x.1.length).sum
theorem outer_run (l : List InP) (hl : l.length ≤ 2000) (hw : ∀ x, x ∈ l → x.1.length ≤ 1048576 ∧ ∀ o, o ∈ x.1 → (Lit.int .i64 o.2).wf = true) (m : MtM) : ∀ (d i : Nat) (w : WD) (out : List WD) (es : List Int), i + d = l.length → out.length = i → es.length + total (l.drop i) ≤ 1048576 →
    ∃ O E, guard_Run.p9 l (l.length : Int) (i : Int) m w out es = some (O, E, 0) ∧ O.length ≤ 2000 ∧ E.length ≤ 1048576 ∧ spylaw2_GuardRuns.p12 O E 0 l (l.length : Int) (i : Int) m w out es = some true ∧ True
  | 0, i, w, out, es, h, ho, he => by
    refine ⟨out, es, ?_, by omega, by omega, ?_, trivial⟩
    · rw [guard_Run.p9_eq, if_neg (by rw [dt]; omega)]
    · rw [spylaw2_GuardRuns.p12_eq, if_neg (by rw [dt]; omega), if_pos (by simp), worlds_self out (by omega), bind_some_, if_pos rfl, errs_self es (by omega)]
      rfl
  | d + 1, i, w, out, es, h, ho, he => by
    have h1 : i < l.length := by omega
    obtain ⟨h2, h3⟩ := hw l[i] (List.getElem_mem h1)
    have ht : total (l.drop i) = l[i].1.length + total (l.drop (i + 1)) := by
      unfold total
      rw [List.drop_eq_getElem_cons h1, List.map_cons, List.sum_cons]
    obtain ⟨w', es', a, b, c⟩ := inner_run l[i].1 h3 (by omega) l (l.length : Int) (i : Int) m l[i] out l[i].1.length 0 w es (by omega) (by omega)
    obtain ⟨r, r1, r2⟩ := guard_step m w' l[i].2
    obtain ⟨O, E, x1, x2, x3, x4, _⟩ := outer_run l hl hw m d (i + 1) r (out ++ [r]) es' (by omega) (by rw [List.length_append, List.length_singleton]; omega) (by omega)
    rw [show ((0 : Nat) : Int) = 0 from rfl] at b c
    refine ⟨O, E, ?_, x2, x3, ?_, trivial⟩
    · rw [guard_Run.p9_eq, if_pos (by rw [dt]; omega), if_pos (by omega), if_pos (by omega), getD_int _ l h1, b, guard_Run.p12_eq, if_neg (by rw [dt]; omega), r1, bind_some_, if_pos (by omega), wi_nat (by omega)]
      exact x1
    · rw [spylaw2_GuardRuns.p12_eq, if_pos (by rw [dt]; omega), if_pos (by omega), if_pos (by omega), getD_int _ l h1, c, spylaw2_GuardRuns.p15_eq, if_neg (by rw [dt]; omega), r2, bind_some_, if_pos (by omega), wi_nat (by omega)]
      exact x4
theorem orders_le (os : List (Int × Int)) : os.length ≤ (os.map (bulkT (.prod (.int .i64) (.int .i64)))).sum := by
  induction os with
  | nil => simp
  | cons o r ih =>
    rw [List.map_cons, List.sum_cons, List.length_cons, bulkT, bulkT, bulkT]
    omega
theorem total_le (l : List InP) : total l ≤ (l.map (bulkT (.prod (.list false 62 (.prod (.int .i64) (.int .i64))) (.prod .bool (.prod .bool (.prod .bool (.prod .bool .bool))))))).sum := by
  induction l with
  | nil => simp [total]
  | cons x r ih =>
    have h : total (x :: r) = x.1.length + total r := by
      unfold total
      rw [List.map_cons, List.sum_cons]
    have := orders_le x.1
    rw [h, List.map_cons, List.sum_cons, bulkT, bulkT]
    refine Nat.add_le_add ?_ ih
    exact Nat.le_trans this (Nat.le_trans (Nat.le_succ _) (Nat.le_add_right _ _))
theorem le_total (l : List InP) : ∀ x, x ∈ l → x.1.length ≤ total l := by
  induction l with
  | nil => intro x h; cases h
  | cons y r ih =>
    intro x h
    have e : total (y :: r) = y.1.length + total r := by
      unfold total
      rw [List.map_cons, List.sum_cons]
    rcases List.mem_cons.1 h with rfl | h
    · omega
    · have := ih x h
      omega
theorem GuardRuns : ∀ (x0 : (Int × Int × Int × Int) × (Int × Int × Int × Int) × Int × Int) (x1 : ((Int × Int × Int × Bool) × (Int × Int × Int × Bool) × Int) × (Int × Int × Bool × Bool × Int × Int × Int × Bool) × (Int × Int × Int × Int) × (Bool × Bool × Bool × Bool × Bool) × (Int × Int) × Int × Int × Int) (x2 : List ((List (Int × Int)) × Bool × Bool × Bool × Bool × Bool)), goodT Try.prog (.prod (.prod (.int .i64) (.prod (.int .i64) (.prod (.int .i64) (.int .i64)))) (.prod (.prod (.int .i64) (.prod (.int .i64) (.prod (.int .i64) (.int .i64)))) (.prod (.int .i64) (.int .i64)))) x0 → goodT Try.prog (.prod (.prod (.prod (.int .i64) (.prod (.int .i64) (.prod (.int .i64) .bool))) (.prod (.prod (.int .i64) (.prod (.int .i64) (.prod (.int .i64) .bool))) (.int .i64))) (.prod (.prod (.int .i64) (.prod (.int .i64) (.prod .bool (.prod .bool (.prod (.int .i64) (.prod (.int .i64) (.prod (.int .i64) .bool))))))) (.prod (.prod (.int .i64) (.prod (.int .i64) (.prod (.int .i64) (.int .i64)))) (.prod (.prod .bool (.prod .bool (.prod .bool (.prod .bool .bool)))) (.prod (.prod (.int .i64) (.int .i64)) (.prod (.int .i64) (.prod (.int .i64) (.int .i64)))))))) x1 → goodT Try.prog (.list false 73 (.prod (.list false 62 (.prod (.int .i64) (.int .i64))) (.prod .bool (.prod .bool (.prod .bool (.prod .bool .bool)))))) x2 → bulkT (.prod (.prod (.int .i64) (.prod (.int .i64) (.prod (.int .i64) (.int .i64)))) (.prod (.prod (.int .i64) (.prod (.int .i64) (.prod (.int .i64) (.int .i64)))) (.prod (.int .i64) (.int .i64)))) x0 + bulkT (.prod (.prod (.prod (.int .i64) (.prod (.int .i64) (.prod (.int .i64) .bool))) (.prod (.prod (.int .i64) (.prod (.int .i64) (.prod (.int .i64) .bool))) (.int .i64))) (.prod (.prod (.int .i64) (.prod (.int .i64) (.prod .bool (.prod .bool (.prod (.int .i64) (.prod (.int .i64) (.prod (.int .i64) .bool))))))) (.prod (.prod (.int .i64) (.prod (.int .i64) (.prod (.int .i64) (.int .i64)))) (.prod (.prod .bool (.prod .bool (.prod .bool (.prod .bool .bool)))) (.prod (.prod (.int .i64) (.int .i64)) (.prod (.int .i64) (.prod (.int .i64) (.int .i64)))))))) x1 + bulkT (.list false 73 (.prod (.list false 62 (.prod (.int .i64) (.int .i64))) (.prod .bool (.prod .bool (.prod .bool (.prod .bool .bool)))))) x2 ≤ 1048576 → spylaw2_GuardRuns x0 x1 x2 = some true := by
  intro m w l _ _ hl hk
  rw [goodT] at hl
  have hos : ∀ x, x ∈ l → ∀ o, o ∈ x.1 → (Lit.int .i64 o.2).wf = true := by
    intro x hx o ho
    have h := hl.2.2 x hx
    rw [goodT, goodT] at h
    have h2 := h.1.2.2 o ho
    rw [goodT, goodT, goodT] at h2
    exact h2.2
  have hb : total l ≤ bulkT (.list false 73 (.prod (.list false 62 (.prod (.int .i64) (.int .i64))) (.prod .bool (.prod .bool (.prod .bool (.prod .bool .bool)))))) l := by
    rw [bulkT]
    have := total_le l
    exact Nat.le_succ_of_le this
  have ht : total l ≤ 1048576 := by omega
  have hx : ∀ x, x ∈ l → x.1.length ≤ 1048576 ∧ ∀ o, o ∈ x.1 → (Lit.int .i64 o.2).wf = true := fun x h => ⟨by have := le_total l x h; omega, hos x h⟩
  obtain ⟨e, e1, e2, e3⟩ := world_same m w
  rw [spylaw2_GuardRuns_eq, guards_true, bind_some_, if_neg (by simp), guard_Run_eq, e1, e2, bind_some_]
  by_cases c : e = 0
  · subst c
    rw [if_neg (by simp)]
    by_cases k : l.length > 2000
    · rw [if_pos (by rw [dt]; omega), bind_some_, bind_some_, if_pos (by simp), if_pos (by rw [dt]; omega), spylaw2_GuardRuns.p7_eq]
      simp
    · obtain ⟨O, E, x1, x2, x3, x4, _⟩ := outer_run l (by omega) hx m l.length 0 w [] [] (by omega) rfl (by simpa using ht)
      rw [show ((0 : Nat) : Int) = 0 from rfl] at x1 x4
      rw [if_neg (by rw [dt]; omega), x1, bind_some_, bind_some_, if_pos (by simp), if_neg (by rw [dt]; omega), spylaw2_GuardRuns.p7_eq, if_neg (by simp)]
      exact x4
  · rw [if_pos (by rw [ne_t]; exact c), bind_some_, bind_some_, if_neg (by rw [eq_t]; exact c), spylaw2_GuardRuns.p7_eq, if_pos (by rw [ne_t]; exact c)]
    simp

end Go.Proofs.Ytmbjpenjcfkaoaa.Pure
