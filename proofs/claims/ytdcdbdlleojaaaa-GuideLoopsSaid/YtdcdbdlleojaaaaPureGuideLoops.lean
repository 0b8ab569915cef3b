/- GuideLoops: the pure statement, proved. -/
import Derived.Test.YtdcdbdlleojaaaaEA0
import Derived.Test.YtdcdbdlleojaaaaEA1
import Derived.Test.YtdcdbdlleojaaaaEA2
import Derived.Test.YtdcdbdlleojaaaaEA3
import Derived.Test.YtdcdbdlleojaaaaEA4
import Derived.Test.YtdcdbdlleojaaaaPl
namespace Go.Proofs.Ytdcdbdlleojaaaa.Pure
set_option linter.unusedVariables false
set_option linter.unusedSimpArgs false
open Go Go.RowKit Go.Proofs.Ytdcdbdlleojaaaa.Pv Go.Proofs.Ytdcdbdlleojaaaa.Pl Go.Proofs.Ytdcdbdlleojaaaa.EA

theorem guides_true : spylaw2_guides = some true := callL_some.2 ⟨200, by kernel_rfl⟩
theorem equal_ints (a b : List Int) (hb : a.length < 9223372036854775807) : slices_Equal_api_Sub a b = some (decide (a = b)) := by
  rw [slices_Equal_api_Sub_eq]
  by_cases h : a.length = b.length
  · rw [if_neg (by rw [ne_t]; omega)]
    exact equal_run 0 (fun x y => x == y) (fun x y => by simp) a b h hb (fun i => slices_Equal_api_Sub.p4 a b (a.length : Int) i) (fun i => slices_Equal_api_Sub.p4_eq ..)
  · rw [if_pos (by rw [ne_t]; omega)]
    have : a ≠ b := fun e => h (by rw [e])
    simp [this]
def corr (e g : Int) : Int := if (1 ≤ g ∧ g ≤ 16) ∧ -1048576000 ≤ e ∧ e ≤ 1048576000 then IntKind.i64.wrap (Int.tdiv (IntKind.i64.wrap (e * g)) 16) else 0
theorem corr0 {e g : Int} (h : ¬ ((1 ≤ g ∧ g ≤ 16) ∧ -1048576000 ≤ e ∧ e ≤ 1048576000)) : some 0 = some (corr e g) := by rw [corr, if_neg h]
theorem corr1 {e g : Int} (h : (1 ≤ g ∧ g ≤ 16) ∧ -1048576000 ≤ e ∧ e ≤ 1048576000) : some (IntKind.i64.wrap (Int.tdiv (IntKind.i64.wrap (e * g)) 16)) = some (corr e g) := by rw [corr, if_pos h]
theorem corr_prog (e g : Int) : guide_Correct e g = some (corr e g) := by
  simp only [guide_Correct_eq, dt, df]
  repeat' (refine ite_eq (fun _ => ?_) (fun _ => ?_))
  all_goals first | exact corr0 (by omega) | exact corr1 (by omega)
theorem corr_law (e g : Int) : spylaw2_GuideLoops_c1 e g = some (corr e g) := by
  simp only [spylaw2_GuideLoops_c1_eq, spyref2_In_eq, bind_ite, bind_some_, dt, df, not_f, not_t, Bool.false_eq_true, decide_eq_true_eq, if_true, if_false]
  repeat' (refine ite_eq (fun _ => ?_) (fun _ => ?_))
  all_goals first | exact corr0 (by omega) | exact corr1 (by omega) | omega
def next (s g x : Int) : Int := IntKind.i64.wrap (IntKind.i64.wrap (s - corr s g) + x)
def loopL (g : Int) : Int → List Int → List Int
  | _, [] => []
  | s, x :: r => next s g x :: loopL g (next s g x) r
def bad (x : Int) : Prop := x < -1048576 ∨ x > 1048576
instance (x : Int) : Decidable (bad x) := by unfold bad; infer_instance
theorem last_app (out : List Int) (s : Int) : (out ++ [s]).getD ((out ++ [s]).length - 1) 0 = s := by simp
theorem loop_good (g : Int) (t : List Int) (ht : t.length ≤ 1000) : ∀ (d i : Nat) (s : Int) (out : List Int), i + d = t.length → out.length ≤ i → (∀ x, x ∈ t.drop i → ¬ bad x) → guide_Loop.p7 g t (t.length : Int) (i : Int) (out ++ [s]) = some (out ++ [s] ++ loopL g s (t.drop i), 0)
  | 0, i, s, out, h, hl, hb => by
    rw [guide_Loop.p7_eq, if_neg (by rw [dt]; omega), List.drop_eq_nil_of_le (by omega), loopL, List.append_nil]
  | d + 1, i, s, out, h, hl, hb => by
    have h1 : i < t.length := by omega
    have hx : ¬ bad t[i] := hb _ (by rw [List.drop_eq_getElem_cons h1]; exact List.mem_cons_self)
    have el : (out ++ [s]).length = out.length + 1 := by rw [List.length_append, List.length_singleton]
    have e1 : IntKind.i64.wrap (((out ++ [s]).length : Int) - 1) = (((out ++ [s]).length - 1 : Nat) : Int) := by rw [wi (by omega) (by omega)]; omega
    unfold bad at hx
    rw [guide_Loop.p7_eq, if_pos (by rw [dt]; omega), if_pos (by omega), if_pos (by omega), getD_int _ t h1, wi_nat (by omega), e1, toNat_nat, last_app, corr_prog, bind_some_]
    simp only [dt, df]
    rw [if_pos (by omega), if_neg (by omega), if_pos (by omega), if_pos (by omega), if_pos (by omega)]
    have := loop_good g t ht d (i + 1) (next s g t[i]) (out ++ [s]) (by omega) (by omega) (fun x hx => hb x (by rw [List.drop_eq_getElem_cons h1]; exact List.mem_cons_of_mem _ hx))
    rw [List.drop_eq_getElem_cons h1, loopL]
    refine this.trans ?_
    rw [List.append_assoc (out ++ [s])]
    rfl
theorem loop_bad (g : Int) (t : List Int) (ht : t.length ≤ 1000) : ∀ (d i : Nat) (s : Int) (out : List Int), i + d = t.length → out.length ≤ i → (∃ x, x ∈ t.drop i ∧ bad x) → guide_Loop.p7 g t (t.length : Int) (i : Int) (out ++ [s]) = some ([], 4)
  | 0, i, s, out, h, hl, hb => by
    obtain ⟨x, hx, _⟩ := hb
    rw [List.drop_eq_nil_of_le (by omega)] at hx
    cases hx
  | d + 1, i, s, out, h, hl, hb => by
    have h1 : i < t.length := by omega
    have el : (out ++ [s]).length = out.length + 1 := by rw [List.length_append, List.length_singleton]
    have e1 : IntKind.i64.wrap (((out ++ [s]).length : Int) - 1) = (((out ++ [s]).length - 1 : Nat) : Int) := by rw [wi (by omega) (by omega)]; omega
    rw [guide_Loop.p7_eq, if_pos (by rw [dt]; omega), if_pos (by omega), if_pos (by omega), getD_int _ t h1, wi_nat (by omega), e1, toNat_nat, last_app, corr_prog, bind_some_]
    simp only [dt, df]
    by_cases c : t[i] < -1048576
    · rw [if_neg (by omega)]
    · rw [if_pos c]
      by_cases c2 : t[i] > 1048576
      · rw [if_pos c2]
      · rw [if_neg c2, if_pos (by omega), if_pos (by omega), if_pos (by omega)]
        refine loop_bad g t ht d (i + 1) (next s g t[i]) (out ++ [s]) (by omega) (by omega) ?_
        obtain ⟨x, hx, hy⟩ := hb
        rw [List.drop_eq_getElem_cons h1] at hx
        rcases List.mem_cons.1 hx with rfl | hx
        · unfold bad at hy
          omega
        · exact ⟨x, hx, hy⟩
theorem loop_law (g : Int) (l : List Int) (t : List Int) (ht : t.length ≤ 1000) : ∀ (d i : Nat) (s : Int) (out : List Int), i + d = t.length → out.length ≤ i → spylaw2_GuideLoops.p25 s l 0 t (t.length : Int) (i : Int) g (out ++ [s]) = slices_Equal_api_Sub l (out ++ [s] ++ loopL g s (t.drop i))
  | 0, i, s, out, h, hl => by
    rw [spylaw2_GuideLoops.p25_eq, if_neg (by rw [dt]; omega), List.drop_eq_nil_of_le (by omega), loopL, List.append_nil, if_pos (by simp), bind_id]
  | d + 1, i, s, out, h, hl => by
    have h1 : i < t.length := by omega
    have el : (out ++ [s]).length = out.length + 1 := by rw [List.length_append, List.length_singleton]
    rw [spylaw2_GuideLoops.p25_eq, if_pos (by rw [dt]; omega), if_pos (by omega), if_pos (by omega), getD_int _ t h1, wi_nat (by omega), corr_law, bind_some_, if_pos (by omega)]
    have := loop_law g l t ht d (i + 1) (next s g t[i]) (out ++ [s]) (by omega) (by omega)
    rw [List.drop_eq_getElem_cons h1, loopL]
    refine this.trans ?_
    rw [List.append_assoc (out ++ [s])]
    rfl
theorem c2_eq (x : Int) : spylaw2_GuideLoops_c2 x = some (decide (bad x)) := by
  rw [spylaw2_GuideLoops_c2_eq]
  simp only [df]
  by_cases c : x < -1048576
  · rw [if_neg (by omega), decide_eq_true (show bad x from .inl c)]
  · rw [if_pos c]
    congr 1
    exact decide_eq_decide.2 ⟨fun q => .inr q, fun q => q.resolve_left c⟩
theorem index_run (t : List Int) (ht : t.length < 9223372036854775807) : ∀ (d i : Nat), i + d = t.length → ∃ r, slices_IndexFunc_api_Sub.p2 t (t.length : Int) (i : Int) = some r ∧ (r ≥ 0 ↔ ∃ x, x ∈ t.drop i ∧ bad x)
  | 0, i, h => by
    rw [slices_IndexFunc_api_Sub.p2_eq, if_neg (by rw [dt]; omega), List.drop_eq_nil_of_le (by omega)]
    exact ⟨-1, rfl, by simp⟩
  | d + 1, i, h => by
    have h1 : i < t.length := by omega
    rw [slices_IndexFunc_api_Sub.p2_eq, if_pos (by rw [dt]; omega), if_pos (by omega), if_pos (by omega), getD_int _ t h1, wi_nat (by omega), c2_eq, bind_some_, List.drop_eq_getElem_cons h1]
    simp only [dt]
    by_cases c : bad t[i]
    · rw [if_pos c]
      exact ⟨(i : Int), rfl, ⟨fun _ => ⟨_, List.mem_cons_self, c⟩, fun _ => by omega⟩⟩
    · rw [if_neg c]
      obtain ⟨r, e, f⟩ := index_run t ht d (i + 1) (by omega)
      refine ⟨r, e, f.trans ⟨fun ⟨x, a, b⟩ => ⟨x, List.mem_cons_of_mem _ a, b⟩, fun ⟨x, a, b⟩ => ?_⟩⟩
      rcases List.mem_cons.1 a with rfl | a
      · exact absurd b c
      · exact ⟨x, a, b⟩
theorem contains_eq (t : List Int) (ht : t.length < 9223372036854775807) : ∃ b, slices_ContainsFunc_api_Sub t = some b ∧ (b = true ↔ ∃ x, x ∈ t ∧ bad x) := by
  rw [slices_ContainsFunc_api_Sub_eq, slices_IndexFunc_api_Sub_eq]
  obtain ⟨r, e, f⟩ := index_run t ht t.length 0 (by omega)
  rw [show ((0 : Nat) : Int) = 0 from rfl] at e
  rw [e, bind_some_]
  exact ⟨_, rfl, by rw [decide_eq_true_eq, f]; rfl⟩
/-- The rest of the law, after Settle. -/
theorem rest (start gain : Int) (drift : List Int) (ht : drift.length < 9223372036854775807) : ((guide_Loop start gain drift).bind fun r5 => if (decide (start < (-1048576))) = false then (if (decide (start > 1048576)) = false then ((spyref2_In gain 1 16).bind fun r6 => if (!r6) = true then (if (r5.2 == 4) = true then (some ((r5.1.length : Int) == 0)) else (some false)) else (if (decide ((drift.length : Int) > 1000)) = true then (if (r5.2 == 2) = true then (some ((r5.1.length : Int) == 0)) else (some false)) else ((slices_ContainsFunc_api_Sub drift).bind fun r7 => if r7 = true then (if (r5.2 == 4) = true then (some ((r5.1.length : Int) == 0)) else (some false)) else (spylaw2_GuideLoops.p25 start r5.1 r5.2 drift (drift.length : Int) 0 gain [start])))) else (if (r5.2 == 4) = true then (some ((r5.1.length : Int) == 0)) else (some false))) else (if (r5.2 == 4) = true then (some ((r5.1.length : Int) == 0)) else (some false))) = some true := by
  rw [guide_Loop_eq]
  simp only [dt, df, spyref2_In_eq, bind_ite, bind_some_]
  have f4 : (if (4 : Int) == 4 then some ((([] : List Int).length : Int) == 0) else some false) = some true := rfl
  by_cases a : start < -1048576
  · simp [a]
  · by_cases b : start > 1048576
    · simp [a, b]
    · by_cases c : 1 ≤ gain
      · by_cases c' : gain ≤ 16
        · by_cases e : drift.length > 1000
          · have e' : (drift.length : Int) > 1000 := by omega
            simp [a, b, c, c', e, e', show ¬ gain < 1 by omega, show ¬ gain > 16 by omega]
          · have e' : ¬ (drift.length : Int) > 1000 := by omega
            obtain ⟨z, z1, z2⟩ := contains_eq drift ht
            rw [z1]
            simp only [if_pos a, if_pos b, if_pos c, if_neg e', bind_some_]
            cases z with
            | true =>
              have w := loop_bad gain drift (by omega) drift.length 0 start [] (by omega) (by simp) (by simpa using z2.1 rfl)
              rw [List.nil_append, show ((0 : Nat) : Int) = 0 from rfl] at w
              simp [c', w, show ¬ gain < 1 by omega, show ¬ gain > 16 by omega]
            | false =>
              have hn : ∀ x, x ∈ drift → ¬ bad x := fun x hx hb => by
                have := z2.2 ⟨x, hx, hb⟩
                cases this
              have w := loop_good gain drift (by omega) drift.length 0 start [] (by omega) (by simp) (by simpa using hn)
              have w2 := loop_law gain ([start] ++ loopL gain start drift) drift (by omega) drift.length 0 start [] (by omega) (by simp)
              rw [List.nil_append, show ((0 : Nat) : Int) = 0 from rfl, List.drop_zero] at w w2
              have ll : ∀ (l : List Int) (s : Int), (loopL gain s l).length = l.length := by
                intro l
                induction l with
                | nil => intro s; rfl
                | cons x r ih => intro s; rw [loopL, List.length_cons, List.length_cons, ih]
              have w3 := equal_ints ([start] ++ loopL gain start drift) ([start] ++ loopL gain start drift) (by rw [List.length_append, ll]; simp; omega)
              simp only [List.singleton_append] at w w2 w3
              simp [c', w, w2, w3, show ¬ gain < 1 by omega, show ¬ gain > 16 by omega]
        · simp [a, b, c, c', show ¬ gain < 1 by omega, show gain > 16 by omega]
      · simp [a, b, c, show gain < 1 by omega]
theorem settle_le {g d : Int} (g0 : 1 ≤ g) (g1 : g ≤ 16) (d0 : 0 ≤ d) (d1 : d ≤ 1048576) : ∃ n, guide_Settle g d = some (n, 0) ∧ ¬ IntKind.i64.wrap (n * g) < 16 * (d + 1) ∧ ¬ IntKind.i64.wrap (IntKind.i64.wrap (n - 1) * g) ≥ 16 * (d + 1) := by
  rw [guide_Settle_eq]
  simp only [dt, df]
  rw [if_pos (by omega), if_pos (by omega), if_pos (by omega), if_neg (by omega), if_neg (by omega), wi (x := d + 1) (by omega) (by omega), wi (x := 16 * (d + 1)) (by omega) (by omega), wi (x := 16 * (d + 1) + g) (by omega) (by omega), wi (x := 16 * (d + 1) + g - 1) (by omega) (by omega), Int.tdiv_eq_ediv_of_nonneg (by omega)]
  have q1 := Int.ediv_mul_le (16 * (d + 1) + g - 1) (show g ≠ 0 by omega)
  have q2 := Int.lt_ediv_add_one_mul_self (16 * (d + 1) + g - 1) (show 0 < g by omega)
  have q3 : 0 ≤ (16 * (d + 1) + g - 1) / g := Int.ediv_nonneg (by omega) (by omega)
  have q4 : (16 * (d + 1) + g - 1) / g ≤ 16 * (d + 1) + g - 1 := Int.ediv_le_self _ (by omega)
  generalize (16 * (d + 1) + g - 1) / g = n at *
  rw [Int.add_mul, Int.one_mul] at q2
  rw [wi (x := n) (by omega) (by omega)]
  have p0 : 0 ≤ n * g := Int.mul_nonneg q3 (by omega)
  refine ⟨n, rfl, ?_, ?_⟩
  · rw [wi (by omega) (by omega)]
    omega
  · rw [wi (x := n - 1) (by omega) (by omega), Int.sub_mul, Int.one_mul, wi (by omega) (by omega)]
    omega
theorem settle_no {g d : Int} (h : ¬ (1 ≤ g ∧ g ≤ 16 ∧ 0 ≤ d ∧ d ≤ 1048576)) : guide_Settle g d = some (0, 4) := by
  simp only [guide_Settle_eq, dt, df]
  repeat' (refine ite_eq (fun _ => ?_) (fun _ => ?_))
  all_goals first | rfl | omega
theorem p8_true (start gain : Int) (drift : List Int) (ht : drift.length < 9223372036854775807) : spylaw2_GuideLoops.p8 start drift 0 4 gain = some true := by
  rw [spylaw2_GuideLoops.p8_eq, if_pos (by simp), if_neg (by simp)]
  exact rest start gain drift ht
theorem GuideLoops : ∀ (x0 : Int) (x1 : Int) (x2 : List Int) (x3 : Int), goodT Try.prog (.int .i64) x0 → goodT Try.prog (.int .i64) x1 → goodT Try.prog (.list false 51 (.int .i64)) x2 → goodT Try.prog (.int .i64) x3 → spylaw2_GuideLoops x0 x1 x2 x3 = some true := by
  intro start gain drift d _ _ ht _
  rw [goodT] at ht
  have hb : Try.prog.bytesOf 51 = 8 := by kernel_rfl
  rw [hb] at ht
  have hl : drift.length < 9223372036854775807 := by omega
  rw [spylaw2_GuideLoops_eq, guides_true, bind_some_, if_neg (by simp), corr_prog, bind_some_, corr_law, bind_some_, if_neg (by simp)]
  have r := rest start gain drift hl
  have p := p8_true start gain drift hl
  by_cases h : 1 ≤ gain ∧ gain ≤ 16 ∧ 0 ≤ d ∧ d ≤ 1048576
  · obtain ⟨g0, g1, d0, d1⟩ := h
    obtain ⟨n, n1, n2, n3⟩ := settle_le g0 g1 d0 d1
    have hin : spyref2_In gain 1 16 = some true := by
      rw [spyref2_In_eq, if_pos (by simp; omega)]
      simp
      omega
    rw [hin] at r
    rw [n1, bind_some_, hin, bind_some_, if_pos (by simp), if_pos (by simp; omega), if_neg (by simp; omega), if_pos (by simp), wi (x := d + 1) (by omega) (by omega), wi (x := 16 * (d + 1)) (by omega) (by omega), if_pos (by rw [df]; exact n2), if_neg (by rw [dt]; exact n3)]
    exact r
  · rw [settle_no h, bind_some_, spyref2_In_eq]
    simp only [bind_ite, bind_some_, dt, df, not_f, not_t, decide_eq_true_eq]
    repeat' (refine ite_eq (fun _ => ?_) (fun _ => ?_))
    all_goals first | exact p | (exfalso; simp_all; done) | (exfalso; omega)

end Go.Proofs.Ytdcdbdlleojaaaa.Pure
