/- GuideSearches: the pure statement, proved. -/
import Derived.Test.YtdcdbdlleojaaaaStGuideSearches
import Derived.Test.YtdcdbdlleojaaaaFGuideSearches
import Derived.Test.YtdcdbdlleojaaaaPl
namespace Go.Proofs.Ytdcdbdlleojaaaa.Pure
open Go.RowKit Go.Proofs.Ytdcdbdlleojaaaa.PGuideSearches Go.Proofs.Ytdcdbdlleojaaaa.FGuideSearches Go.Proofs.Ytdcdbdlleojaaaa.StGuideSearches Go.Proofs.YtdcdbdlleojaaaaW.PrintWords Go.Proofs.YtdcdbdlleojaaaaW.PrintLast Go.Proofs.Ytdcdbdlleojaaaa.Lim Go.Proofs.Ytdcdbdlleojaaaa.Pl

theorem equal_l0 (a b : List Int) (hab : a.length = b.length) (hb : a.length < 9223372036854775807) : ∀ (d i : Nat), i + d = a.length → slices_Equal_int_int.L0 a b (a.length : Int) (i : Int) = some (decide (a.drop i = b.drop i))
  | 0, i, h => by
    rw [slices_Equal_int_int.L0_eq, if_neg (by omega), List.drop_eq_nil_of_le (by omega), List.drop_eq_nil_of_le (by omega)]
    rfl
  | d + 1, i, h => by
    have h1 : i < a.length := by omega
    have h2 : i < b.length := by omega
    rw [slices_Equal_int_int.L0_eq, if_pos (by omega), if_pos (by omega), if_pos (by omega), if_pos (by omega), wrap_nat i (by omega), rd_nat a i h1, rd_nat b i h2, List.drop_eq_getElem_cons h1, List.drop_eq_getElem_cons h2]
    by_cases e : a[i] = b[i]
    · rw [if_pos e, equal_l0 a b hab hb d (i + 1) (by omega)]
      exact congrArg some (decide_eq_decide.2 ⟨fun q => by rw [e, q], fun q => (List.cons.inj q).2⟩)
    · rw [if_neg e]
      exact congrArg some (decide_eq_false (fun q => e (List.cons.inj q).1)).symm
theorem equal_ints (a b : List Int) (hb : a.length < 9223372036854775807) : slices_Equal_int_int.F a b = some (decide (a = b)) := by
  rw [slices_Equal_int_int.F_eq]
  by_cases h : (a.length : Int) = (b.length : Int)
  · rw [if_pos h]
    have := equal_l0 a b (by omega) hb a.length 0 (by omega)
    simpa using this
  · rw [if_neg h]
    have : a ≠ b := fun e => h (by rw [e])
    simp [this]
theorem search (l : List Int) (hl : l.length ≤ 1000) : ∀ (d : Nat) (lo hi : Int) (acc : List Int), 0 ≤ lo → lo ≤ hi → hi < (l.length : Int) → hi - lo ≤ (d : Int) → (acc.length : Int) + 2 * (hi - lo) ≤ 2000 →
    ∃ r full, guide_Sharpest.L0 l lo hi acc = some (r, full, 0) ∧ spylaw2_GuideSearches.L0 l r full 0 acc lo hi = some true := by
  intro d
  induction d with
  | zero =>
    intro lo hi acc h0 h1 h2 h3 h4
    have e : lo = hi := by omega
    refine ⟨lo, acc, ?_, ?_⟩
    · rw [guide_Sharpest.L0_eq, if_neg (by omega)]
    · rw [spylaw2_GuideSearches.L0_eq, if_pos e, if_pos rfl, if_pos rfl, equal_ints _ _ (by omega)]
      simp
  | succ d ih =>
    intro lo hi acc h0 h1 h2 h3 h4
    by_cases e : lo = hi
    · refine ⟨lo, acc, ?_, ?_⟩
      · rw [guide_Sharpest.L0_eq, if_neg (by omega)]
      · rw [spylaw2_GuideSearches.L0_eq, if_pos e, if_pos rfl, if_pos rfl, equal_ints _ _ (by omega)]
        simp
    · obtain ⟨m, hm⟩ : ∃ m, m = (lo + hi) / 2 := ⟨_, rfl⟩
      have m1 : wrap64 (Int.tdiv (wrap64 (lo + hi)) 2) = m := by
        rw [wrap_id (x := lo + hi) (by omega) (by omega), Int.tdiv_eq_ediv_of_nonneg (by omega), ← hm, wrap_id (by omega) (by omega)]
      have m2 : wrap64 (m + 1) = m + 1 := wrap_id (by omega) (by omega)
      have c1 : acc.length + [m, m + 1].length < 17592186044416 := by simp; omega
      have b0 : 0 ≤ m := by omega
      have b1 : m < (l.length : Int) := by omega
      have b2 : 0 ≤ m + 1 := by omega
      have b3 : m + 1 < (l.length : Int) := by omega
      have lt : lo < hi := by omega
      have al : ((acc ++ [m, m + 1]).length : Int) = acc.length + 2 := by simp
      rw [guide_Sharpest.L0_eq]
      simp only [spylaw2_GuideSearches.L0_eq l _ _ _ acc lo hi, m1, m2, Option.bind_some, if_pos c1, if_pos b0, if_pos b1, if_pos b2, if_pos b3, if_pos lt, if_neg e]
      by_cases c : rd l m < rd l (m + 1)
      · simp only [if_pos c]
        exact ih lo m _ h0 (by omega) (by omega) (by omega) (by omega)
      · simp only [if_neg c]
        exact ih (m + 1) hi _ (by omega) (by omega) (by omega) (by omega) (by omega)
theorem guides_true : spylaw2_guides.F = some true := run_at spylaw2_guides.F_mono 20 (by decide +kernel)
theorem GuideSearches : PureS := by
  intro l _
  refine rounds (g := fun k => spylaw2_GuideSearches.f k l) ?_
  show spylaw2_GuideSearches.F l = some true
  rw [spylaw2_GuideSearches.F_eq, guides_true, Option.bind_some, if_pos rfl, guide_Sharpest.F_eq]
  by_cases c0 : (l.length : Int) = 0
  · simp only [if_pos c0, Option.bind_some]
    simp
  · by_cases c1 : (l.length : Int) > 1000
    · simp only [if_neg c0, if_pos c1, Option.bind_some]
      simp
    · have e : wrap64 ((l.length : Int) - 1) = (l.length : Int) - 1 := wrap_id (by omega) (by omega)
      obtain ⟨r, full, h1, h2⟩ := search l (by omega) l.length 0 ((l.length : Int) - 1) [] (by omega) (by omega) (by omega) (by omega) (by simp; omega)
      simp only [if_neg c0, if_neg c1, e, h1, Option.bind_some, h2]

end Go.Proofs.Ytdcdbdlleojaaaa.Pure
