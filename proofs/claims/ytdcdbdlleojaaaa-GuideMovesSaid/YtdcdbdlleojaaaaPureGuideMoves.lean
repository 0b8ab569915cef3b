/- GuideMoves: the pure statement, proved. -/
import Derived.Test.YtdcdbdlleojaaaaStGuideMoves
import Derived.Test.YtdcdbdlleojaaaaFGuideMoves
import Derived.Test.YtdcdbdlleojaaaaPl
namespace Go.Proofs.Ytdcdbdlleojaaaa.Pure
set_option linter.unusedVariables false
set_option linter.unusedSimpArgs false
open Go.RowKit Go.Proofs.Ytdcdbdlleojaaaa.PGuideMoves Go.Proofs.Ytdcdbdlleojaaaa.FGuideMoves Go.Proofs.Ytdcdbdlleojaaaa.StGuideMoves Go.Proofs.YtdcdbdlleojaaaaW.PrintWords Go.Proofs.YtdcdbdlleojaaaaW.PrintLast Go.Proofs.YtdcdbdlleojaaaaW.PrintMore Go.Proofs.Ytdcdbdlleojaaaa.Lim Go.Proofs.Ytdcdbdlleojaaaa.Pl

theorem equal_l0 (a b : List Int) (hab : a.length = b.length) (hb : a.length < 9223372036854775807) : ∀ (d i : Nat), i + d = a.length → slices_Equal_int_int.L0 a b (a.length : Int) (i : Int) = some (decide (a.drop i = b.drop i))
  | 0, i, h => by
    rw [slices_Equal_int_int.L0_eq, if_neg (by omega), List.drop_eq_nil_of_le (by omega), List.drop_eq_nil_of_le (by omega)]
    rfl
  | d + 1, i, h => by
    have h1 : i < a.length := by omega
    have h2 : i < b.length := by omega
    rw [slices_Equal_int_int.L0_eq, if_pos (by omega), if_pos (by omega), if_pos (by omega), if_pos (by omega), wrap_nat i (by omega), rd_nat a i h1, rd_nat b i h2, List.drop_eq_getElem_cons h1, List.drop_eq_getElem_cons h2]
    by_cases e : a[i] = b[i]
    · rw [if_pos e, equal_l0 a b hab hb d (i + 1) (by omega)]
      exact congrArg some (decide_eq_decide.2 ⟨fun q => by rw [e, q], fun q => (List.cons.inj q).2⟩)
    · rw [if_neg e]
      exact congrArg some (decide_eq_false (fun q => e (List.cons.inj q).1)).symm
theorem equal_ints (a b : List Int) (hb : a.length < 9223372036854775807) : slices_Equal_int_int.F a b = some (decide (a = b)) := by
  rw [slices_Equal_int_int.F_eq]
  by_cases h : (a.length : Int) = (b.length : Int)
  · rw [if_pos h]
    have := equal_l0 a b (by omega) hb a.length 0 (by omega)
    simpa using this
  · rw [if_neg h]
    have : a ≠ b := fun e => h (by rw [e])
    simp [this]
theorem in_eq (x lo hi : Int) : spyref2_In.f x lo hi = some (decide (lo ≤ x ∧ x ≤ hi)) := by
  unfold spyref2_In.f
  by_cases c : lo ≤ x <;> simp [c]
def ffault (m l : Int) : Int := if m < 0 ∨ m > 10000 then 4 else if l > m ∨ l < m - 40 then 3 else 0
theorem fcheck_eq (m l : Int) : guide_Check.F m l = some (ffault m l) := by
  have j : guide_Check.J0 true m l = some 4 := by rw [guide_Check.J0_eq, if_pos rfl]
  rw [guide_Check.F_eq, j]
  unfold ffault
  by_cases c1 : m < 0
  · rw [if_pos c1, if_pos (Or.inl c1)]
  · rw [if_neg c1, guide_Check.J0_eq]
    by_cases c2 : m > 10000
    · rw [if_pos (decide_eq_true c2), if_pos (Or.inr c2)]
    · have n : ¬ (m < 0 ∨ m > 10000) := by omega
      rw [if_neg (by simpa using c2), if_neg n, wrap_id (by omega) (by omega)]
      by_cases c3 : l > m
      · rw [if_pos c3, if_pos (Or.inl c3)]
      · rw [if_neg c3]
        by_cases c4 : l < m - 40
        · rw [if_pos c4, if_pos (Or.inr c4)]
        · rw [if_neg c4, if_neg (by omega)]
theorem ffocus_eq (m l : Int) : spyref2_FocusFault.f m l = some (ffault m l) := by
  unfold spyref2_FocusFault.f ffault
  simp only [in_eq, Option.bind_some]
  by_cases c1 : 0 ≤ m ∧ m ≤ 10000
  · have n : ¬ (m < 0 ∨ m > 10000) := by omega
    rw [if_pos (decide_eq_true c1), if_neg n, wrap_id (by omega) (by omega)]
    by_cases c2 : m - 40 ≤ l ∧ l ≤ m
    · rw [if_pos (decide_eq_true c2), if_neg (by omega)]
    · rw [if_neg (by simpa using c2), if_pos (by omega)]
  · rw [if_neg (by simpa using c1), if_pos (by omega)]
theorem guides_true : spylaw2_guides.F = some true := run_at spylaw2_guides.F_mono 40 (by decide +kernel)
theorem fin {m l x : Int} (hm : 0 ≤ m ∧ m ≤ 10000) (p : List Int) (e : Int) (h : guide_Path.F m l x = some (p, e)) (hf : ffault m l = 0) : spylaw2_GuideMoves.J3 x p e m l = some true := by
  rw [guide_Path.F_eq, fcheck_eq, hf, Option.bind_some, if_pos rfl] at h
  rw [spylaw2_GuideMoves.J3_eq, in_eq, Option.bind_some]
  by_cases c1 : 0 ≤ x ∧ x ≤ 9960
  · have e1 : decide (x > 9960) = false := by simp; omega
    have e2 : wrap64 (x + 40) = x + 40 := wrap_id (by omega) (by omega)
    rw [if_neg (by omega), e1, guide_Path.J0_eq, if_neg (by simp), e2] at h
    rw [if_pos (decide_eq_true c1), e2]
    by_cases c2 : l > x
    · rw [if_pos c2] at h
      obtain ⟨rfl, rfl⟩ := Prod.mk.inj (Option.some.inj h)
      simp only [c2, if_true, Option.bind_some]
      rw [equal_ints _ _ (by simp)]
      simp
    · rw [if_neg c2] at h
      obtain ⟨rfl, rfl⟩ := Prod.mk.inj (Option.some.inj h)
      simp only [c2, if_false, Option.bind_some]
      rw [equal_ints _ _ (by simp)]
      simp
  · have h2 : some (([] : List Int), (4 : Int)) = some (p, e) := by
      rw [← h]
      by_cases c2 : x < 0
      · rw [if_pos c2, guide_Path.J0_eq, if_pos rfl]
      · have e1 : decide (x > 9960) = true := by simp; omega
        rw [if_neg c2, e1, guide_Path.J0_eq, if_pos rfl]
    obtain ⟨rfl, rfl⟩ := Prod.mk.inj (Option.some.inj h2)
    rw [if_neg (by simpa using c1)]
    simp
theorem GuideMoves : PureS := by
  intro m l p x _ _ _ _
  refine rounds (g := fun k => spylaw2_GuideMoves.f k m l p x) ?_
  show spylaw2_GuideMoves.F m l p x = some true
  rw [spylaw2_GuideMoves.F_eq, guides_true, fcheck_eq, ffocus_eq, Option.bind_some, if_pos rfl, Option.bind_some, Option.bind_some]
  have e0 : (ffault m l != ffault m l) = false := by simp
  rw [e0, spylaw2_GuideMoves.J0_eq, if_neg (by simp), guide_Move.F_eq, fcheck_eq, ffocus_eq]
  simp only [Option.bind_some]
  by_cases hf : ffault m l = 0
  · have hm : 0 ≤ m ∧ m ≤ 10000 ∧ l ≤ m ∧ m - 40 ≤ l := by
      unfold ffault at hf
      split at hf
      · cases hf
      · split at hf
        · cases hf
        · omega
    obtain ⟨pe, hp⟩ : ∃ pe, guide_Path.F m l x = some pe := by
      rw [guide_Path.F_eq, fcheck_eq, hf, Option.bind_some, if_pos rfl, guide_Path.J0_eq, guide_Path.J0_eq]
      repeat' split
      all_goals exact ⟨_, rfl⟩
    obtain ⟨path, e⟩ := pe
    have f3 := fin (x := x) ⟨hm.1, hm.2.1⟩ path e hp hf
    simp only [if_pos hf, hp, hf, Option.bind_some, if_true]
    by_cases c : 0 ≤ p ∧ p ≤ 10000
    · have n0 : ¬ p < 0 := by omega
      have n1 : ¬ p > 10000 := by omega
      have w : wrap64 (p - 40) = p - 40 := wrap_id (by omega) (by omega)
      simp only [if_neg n0, if_neg n1, Option.bind_some, w, spylaw2_GuideMoves.J1_eq, spylaw2_GuideMoves.J2_eq, in_eq, decide_eq_true c, if_true, f3]
      unfold mn mx
      repeat' split
      all_goals first | rfl | (exfalso; first | omega | (simp at *; done) | (simp at *; omega))
    · have e2 : (if p < 0 then some ((0 : Int), (0 : Int), (4 : Int)) else if p > 10000 then some (0, 0, 4) else some (p, mn (mx l (wrap64 (p - 40))) p, 0)) = some (0, 0, 4) := by
        by_cases c2 : p < 0
        · rw [if_pos c2]
        · rw [if_neg c2, if_pos (by omega)]
      rw [e2]
      simp only [Option.bind_some, spylaw2_GuideMoves.J1_eq, spylaw2_GuideMoves.J2_eq, in_eq, decide_eq_false c, f3]
      repeat' split
      all_goals first | rfl | (exfalso; simp at *; done) | simp at *
  · have hp : guide_Path.F m l x = some ([], ffault m l) := by
      rw [guide_Path.F_eq, fcheck_eq, Option.bind_some, if_neg hf]
    simp only [if_neg hf, hp, Option.bind_some]
    simp

end Go.Proofs.Ytdcdbdlleojaaaa.Pure
