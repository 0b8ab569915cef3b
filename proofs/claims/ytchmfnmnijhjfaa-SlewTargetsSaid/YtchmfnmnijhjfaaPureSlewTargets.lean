/- SlewTargets: the pure statement, proved. -/
import Derived.Test.YtchmfnmnijhjfaaStSlewTargets
import Derived.Test.YtchmfnmnijhjfaaFSlewTargets
import Derived.Test.YtchmfnmnijhjfaaPl
namespace Go.Proofs.Ytchmfnmnijhjfaa.Pure
set_option linter.unusedVariables false
set_option linter.unusedSimpArgs false
open Go.RowKit Go.Proofs.Ytchmfnmnijhjfaa.PSlewTargets Go.Proofs.Ytchmfnmnijhjfaa.FSlewTargets Go.Proofs.Ytchmfnmnijhjfaa.StSlewTargets Go.Proofs.YtchmfnmnijhjfaaW.PrintWords Go.Proofs.YtchmfnmnijhjfaaW.PrintLast Go.Proofs.YtchmfnmnijhjfaaW.PrintMore Go.Proofs.Ytchmfnmnijhjfaa.Lim Go.Proofs.Ytchmfnmnijhjfaa.Pl

/-! Axes: what is wrong with one; how fast one may go. -/
def fault (mn mx sp ac : Int) : Int :=
  if mn < -17179869184 ∨ mx > 17179869184 then 4 else if mn > mx then 11 else if sp < 16777216 ∨ sp > 1073741824 ∨ ac > sp ∨ ac < 1 ∨ ac * 64 < sp then 4 else 0
structure AxOk (mn mx sp ac : Int) : Prop where
  lo : -17179869184 ≤ mn
  hi : mx ≤ 17179869184
  le : mn ≤ mx
  s0 : 16777216 ≤ sp
  s1 : sp ≤ 1073741824
  a0 : 1 ≤ ac
  a1 : ac ≤ sp
  a2 : sp ≤ 64 * ac
theorem fault_ok {mn mx sp ac : Int} (h : fault mn mx sp ac = 0) : AxOk mn mx sp ac := by
  unfold fault at h
  split at h
  · cases h
  · split at h
    · cases h
    · split at h
      · cases h
      · exact ⟨by omega, by omega, by omega, by omega, by omega, by omega, by omega, by omega⟩
theorem check_eq (mn mx sp ac : Int) : slew_CheckAxis.F mn mx sp ac = some (fault mn mx sp ac) := by
  rw [slew_CheckAxis.F_eq]
  unfold fault
  by_cases c1 : mn < -17179869184
  · rw [if_pos c1, slew_CheckAxis.J0_eq, if_pos rfl, if_pos (Or.inl c1)]
  · rw [if_neg c1, slew_CheckAxis.J0_eq]
    by_cases c2 : mx > 17179869184
    · rw [if_pos (decide_eq_true c2), if_pos (Or.inr c2)]
    · have n1 : ¬ (mn < -17179869184 ∨ mx > 17179869184) := by omega
      rw [if_neg (by simpa using c2), if_neg n1]
      by_cases c3 : mn > mx
      · simp only [if_pos c3]
      · simp only [if_neg c3]
        by_cases c4 : sp < 16777216
        · rw [if_pos c4, if_pos (Or.inl c4)]
        · rw [if_neg c4]
          by_cases c5 : sp > 1073741824
          · rw [if_pos c5, if_pos (Or.inr (Or.inl c5))]
          · rw [if_neg c5]
            by_cases c6 : ac > sp
            · rw [if_pos c6, if_pos (Or.inr (Or.inr (Or.inl c6)))]
            · rw [if_neg c6]
              by_cases c7 : ac < 1
              · rw [if_pos c7, if_pos (Or.inr (Or.inr (Or.inr (Or.inl c7))))]
              · rw [if_neg c7, wrap_id (by omega) (by omega)]
                by_cases c8 : ac * 64 < sp
                · rw [if_pos c8, if_pos (Or.inr (Or.inr (Or.inr (Or.inr c8))))]
                · rw [if_neg c8, if_neg (by omega)]
theorem fault_eq (mn mx sp ac : Int) : spyref2_AxisFault.F mn mx sp ac = some (fault mn mx sp ac) := by
  rw [spyref2_AxisFault.F_eq]
  unfold fault
  by_cases c1 : mn < -17179869184
  · rw [if_pos c1, spyref2_AxisFault.J0_eq, if_pos rfl, if_pos (Or.inl c1)]
  · rw [if_neg c1, spyref2_AxisFault.J0_eq]
    by_cases c2 : mx > 17179869184
    · rw [if_pos (decide_eq_true c2), if_pos (Or.inr c2)]
    · have n1 : ¬ (mn < -17179869184 ∨ mx > 17179869184) := by omega
      rw [if_neg (by simpa using c2), if_neg n1]
      by_cases c3 : mn > mx
      · simp only [if_pos c3]
      · simp only [if_neg c3]
        by_cases c4 : sp < 16777216
        · rw [if_pos c4, if_pos (Or.inl c4)]
        · rw [if_neg c4]
          by_cases c5 : sp > 1073741824
          · rw [if_pos c5, if_pos (Or.inr (Or.inl c5))]
          · rw [if_neg c5]
            by_cases c7 : ac < 1
            · rw [if_pos c7, if_pos (Or.inr (Or.inr (Or.inr (Or.inl c7))))]
            · rw [if_neg c7]
              by_cases c6 : ac > sp
              · rw [if_pos c6, if_pos (Or.inr (Or.inr (Or.inl c6)))]
              · rw [if_neg c6, wrap_id (by omega) (by omega)]
                by_cases c8 : ac * 64 < sp
                · rw [if_pos (by omega), if_pos (Or.inr (Or.inr (Or.inr (Or.inr c8))))]
                · rw [if_neg (by omega), if_neg (by omega)]
theorem within_eq (mn_ mx_ sp ac p : Int) : spyref2_Within.f mn_ mx_ sp ac p = slew_In.f mn_ mx_ sp ac p := rfl
theorem in_eq (mn_ mx_ sp ac p : Int) : slew_In.f mn_ mx_ sp ac p = some (decide (mn_ ≤ p ∧ p ≤ mx_)) := by
  unfold slew_In.f
  by_cases c : mn_ ≤ p <;> simp [c]
theorem axes_true : spylaw2_axes.F = some true := run_at spylaw2_axes.F_mono 100 (by decide +kernel)
/-! The position of an angle. -/
theorem mod_eq (x : Int) (h0 : -9223372036854775808 ≤ x) (h1 : x ≤ 9223372036854775807) : slew_mod.f x = some (x % 4294967296) := by
  unfold slew_mod.f
  have t := Int.tmod_def x 4294967296
  have e : x.tmod 4294967296 = if 0 ≤ x ∨ x % 4294967296 = 0 then x % 4294967296 else x % 4294967296 - 4294967296 := by
    rw [Int.tmod_eq_emod]
    have : ((4294967296 : Int) ∣ x) ↔ x % 4294967296 = 0 := Int.dvd_iff_emod_eq_zero
    by_cases c : 0 ≤ x
    · simp [c]
    · by_cases d : x % 4294967296 = 0
      · simp [d, this.2 d]
      · have nd : ¬ (4294967296 : Int) ∣ x := fun h => d (this.1 h)
        simp [c, d, nd]
  rw [e]
  split
  · rw [if_neg (by omega)]
  · rw [if_pos (by omega), wrap_id (by omega) (by omega)]
    congr 1
    omega
theorem abs_eq (x : Int) (h0 : -9223372036854775807 ≤ x) (h1 : x ≤ 9223372036854775807) : slew_abs.f x = some (x.natAbs : Int) := by
  unfold slew_abs.f mx
  rw [wrap_id (x := -x) (by omega) (by omega)]
  congr 1
  split <;> omega
theorem dist_eq (a b : Int) (h0 : -4611686018427387903 ≤ a) (h1 : a ≤ 4611686018427387903) (h2 : -4611686018427387903 ≤ b) (h3 : b ≤ 4611686018427387903) : spyref2_distance.f a b = some ((a - b).natAbs : Int) := by
  unfold spyref2_distance.f
  split
  · rw [wrap_id (by omega) (by omega)]
    congr 1
    omega
  · rw [wrap_id (by omega) (by omega)]
    congr 1
    omega
/-- best is the nearest to fr, of two the smaller one, of the positions below hi that are congruent to an angle. -/
def Best (mn_ mx_ fr ang hi best : Int) : Prop := (mn_ ≤ best ∧ best ≤ mx_ ∧ best < hi ∧ (best - ang) % 4294967296 = 0) ∧ ∀ q, mn_ ≤ q → q ≤ mx_ → q < hi → (q - ang) % 4294967296 = 0 → (best - fr).natAbs < (q - fr).natAbs ∨ ((best - fr).natAbs = (q - fr).natAbs ∧ best ≤ q)
theorem best_uniq {mn_ mx_ fr ang hi hi' b b' : Int} (hh : mx_ < hi) (hh' : mx_ < hi') (h : Best mn_ mx_ fr ang hi b) (h' : Best mn_ mx_ fr ang hi' b') : b = b' := by
  have x := h.2 b' h'.1.1 h'.1.2.1 (by have := h'.1.2.1; omega) h'.1.2.2.2
  have y := h'.2 b h.1.1 h.1.2.1 (by have := h.1.2.1; omega) h.1.2.2.2
  omega
theorem best_next {mn_ mx_ fr ang p b : Int} (h : Best mn_ mx_ fr ang p b) (hp : (p - ang) % 4294967296 = 0) (h1 : mn_ ≤ p) (h2 : p ≤ mx_) : Best mn_ mx_ fr ang (p + 4294967296) (if (p - fr).natAbs < (b - fr).natAbs then p else b) := by
  obtain ⟨⟨b1, b2, b3, b4⟩, hb⟩ := h
  by_cases c : (p - fr).natAbs < (b - fr).natAbs
  · rw [if_pos c]
    refine ⟨⟨h1, h2, by omega, hp⟩, fun q q1 q2 q3 q4 => ?_⟩
    by_cases e : q < p
    · have := hb q q1 q2 e q4
      omega
    · have : q = p := by omega
      omega
  · rw [if_neg c]
    refine ⟨⟨b1, b2, by omega, b4⟩, fun q q1 q2 q3 q4 => ?_⟩
    by_cases e : q < p
    · exact hb q q1 q2 e q4
    · have : q = p := by omega
      omega
theorem best_over {mn_ mx_ fr ang p b hi : Int} (h : Best mn_ mx_ fr ang p b) (hp : (p - ang) % 4294967296 = 0) (h2 : mx_ < p) (h3 : p ≤ hi) : Best mn_ mx_ fr ang hi b := by
  obtain ⟨⟨b1, b2, b3, b4⟩, hb⟩ := h
  exact ⟨⟨b1, b2, by omega, b4⟩, fun q q1 q2 q3 q4 => hb q q1 q2 (by omega) q4⟩
theorem target_l0 {mn_ mx_ sp ac fr ang : Int} (l0 : -17179869184 ≤ mn_) (l1 : mx_ ≤ 17179869184) (l2 : mn_ ≤ mx_) (f0 : mn_ ≤ fr) (f1 : fr ≤ mx_) : ∀ (n : Nat) (p b : Int), mx_ - p < (n : Int) * 4294967296 → mn_ ≤ p → p ≤ mx_ + 4294967296 → (p - ang) % 4294967296 = 0 →
    (Best mn_ mx_ fr ang p b ∨ (b = p ∧ p ≤ mx_ ∧ p < mn_ + 4294967296)) → ∃ r, slew_Target.L0 fr p b mn_ mx_ sp ac = some (r, 0) ∧ ∃ hi, mx_ < hi ∧ Best mn_ mx_ fr ang hi r := by
  intro n
  induction n with
  | zero =>
    intro p b h1 h2 h3 h4 h5
    rw [slew_Target.L0_eq, if_neg (by omega)]
    rcases h5 with h5 | h5
    · exact ⟨b, rfl, p, by omega, h5⟩
    · omega
  | succ n ih =>
    intro p b h1 h2 h3 h4 h5
    by_cases c : p ≤ mx_
    · have bb : -34359738368 ≤ b ∧ b ≤ 34359738368 := by
        rcases h5 with h5 | h5
        · have := h5.1
          omega
        · omega
      rw [slew_Target.L0_eq, if_pos c, wrap_id (x := p - fr) (by omega) (by omega), wrap_id (x := b - fr) (by omega) (by omega), abs_eq _ (by omega) (by omega), abs_eq _ (by omega) (by omega), Option.bind_some, Option.bind_some, wrap_id (x := p + 4294967296) (by omega) (by omega)]
      have e : (((n + 1 : Nat)) : Int) * 4294967296 = (n : Int) * 4294967296 + 4294967296 := by omega
      rcases h5 with h5 | ⟨rfl, h5, h6⟩
      · have nx := best_next h5 h4 h2 c
        by_cases d : (p - fr).natAbs < (b - fr).natAbs
        · rw [if_pos d] at nx
          rw [if_pos (by omega)]
          exact ih _ _ (by omega) (by omega) (by omega) (by omega) (Or.inl nx)
        · rw [if_neg d] at nx
          rw [if_neg (by omega)]
          exact ih _ _ (by omega) (by omega) (by omega) (by omega) (Or.inl nx)
      · rw [if_neg (by omega)]
        refine ih _ _ (by omega) (by omega) (by omega) (by omega) (Or.inl ⟨⟨h2, c, by omega, h4⟩, fun q q1 q2 q3 q4 => ?_⟩)
        have : q = b := by omega
        omega
    · rw [slew_Target.L0_eq, if_neg c]
      rcases h5 with h5 | h5
      · exact ⟨b, rfl, p, by omega, h5⟩
      · omega
theorem rtarget_l0 {mn_ mx_ sp ac fr ang rest : Int} (l0 : -17179869184 ≤ mn_) (l1 : mx_ ≤ 17179869184) (f0 : mn_ ≤ fr) (f1 : fr ≤ mx_) (r0 : -4294967296 < rest) (r1 : rest < 4294967296) (ra : (rest - ang) % 4294967296 = 0) : ∀ (n : Nat) (k : Int) (found : Bool) (b : Int), k + (n : Int) = 7 → -6 ≤ k → 
    (found = true → Best mn_ mx_ fr ang (rest + k * 4294967296) b) → (found = false → ∀ q, mn_ ≤ q → q ≤ mx_ → q < rest + k * 4294967296 → (q - ang) % 4294967296 = 0 → False) → 
    (∃ r, spyref2_Target.L0 fr rest found b k mn_ mx_ sp ac = some (r, 0) ∧ ∃ hi, mx_ < hi ∧ Best mn_ mx_ fr ang hi r) ∨ (spyref2_Target.L0 fr rest found b k mn_ mx_ sp ac = some (0, 4) ∧ ∀ q, mn_ ≤ q → q ≤ mx_ → (q - ang) % 4294967296 = 0 → False) := by
  intro n
  induction n with
  | zero =>
    intro k found b hk hk2 h1 h2
    rw [spyref2_Target.L0_eq, if_neg (by omega)]
    cases found with
    | true => exact Or.inl ⟨b, by rw [if_pos rfl], _, by omega, h1 rfl⟩
    | false => exact Or.inr ⟨by rw [if_neg (by simp)], fun q q1 q2 q3 => h2 rfl q q1 q2 (by omega) q3⟩
  | succ n ih =>
    intro k found b hk hk2 h1 h2
    have pk : (rest + k * 4294967296 - ang) % 4294967296 = 0 := by omega
    rw [spyref2_Target.L0_eq, if_pos (by omega), wrap_id (x := k * 4294967296) (by omega) (by omega), wrap_id (x := rest + k * 4294967296) (by omega) (by omega), wrap_id (x := k + 1) (by omega) (by omega), within_eq, in_eq, Option.bind_some]
    have ek : rest + (k + 1) * 4294967296 = rest + k * 4294967296 + 4294967296 := by omega
    by_cases c : mn_ ≤ rest + k * 4294967296 ∧ rest + k * 4294967296 ≤ mx_
    · rw [if_pos (decide_eq_true c)]
      cases found with
      | true =>
        have hb := h1 rfl
        have b1 := hb.1
        have nx := best_next hb pk c.1 c.2
        rw [if_pos rfl, dist_eq _ _ (by omega) (by omega) (by omega) (by omega), dist_eq _ _ (by omega) (by omega) (by omega) (by omega), Option.bind_some, Option.bind_some]
        by_cases d : (rest + k * 4294967296 - fr).natAbs < (b - fr).natAbs
        · rw [if_pos d] at nx
          rw [if_pos (by omega)]
          exact ih _ _ _ (by omega) (by omega) (fun _ => by rw [ek]; exact nx) (fun h => by cases h)
        · rw [if_neg d] at nx
          rw [if_neg (by omega)]
          exact ih _ _ _ (by omega) (by omega) (fun _ => by rw [ek]; exact nx) (fun h => by cases h)
      | false =>
        rw [if_neg (by simp)]
        refine ih _ _ _ (by omega) (by omega) (fun _ => ⟨⟨c.1, c.2, by omega, pk⟩, fun q q1 q2 q3 q4 => ?_⟩) (fun h => by cases h)
        by_cases e : q < rest + k * 4294967296
        · exact (h2 rfl q q1 q2 e q4).elim
        · have : q = rest + k * 4294967296 := by omega
          omega
    · rw [if_neg (by simpa using c)]
      refine ih _ _ _ (by omega) (by omega) (fun h => ?_) (fun h q q1 q2 q3 q4 => ?_)
      · have hb := h1 h
        by_cases e : mx_ < rest + k * 4294967296
        · exact best_over hb pk e (by omega)
        · have := hb.1
          omega
      · by_cases e : q < rest + k * 4294967296
        · exact h2 h q q1 q2 e q4
        · have : q = rest + k * 4294967296 := by omega
          omega
theorem target_all (mn_ mx_ sp ac fr ang : Int) (w : (Lit.int .i64 ang).wf = true) : ∃ r, slew_Target.F mn_ mx_ sp ac fr ang = some r ∧ spyref2_Target.F mn_ mx_ sp ac fr ang = some r ∧ (r.2 = 0 → fault mn_ mx_ sp ac = 0 ∧ mn_ ≤ fr ∧ fr ≤ mx_ ∧ mn_ ≤ r.1 ∧ r.1 ≤ mx_) := by
  have wa := wf64 w
  rw [slew_Target.F_eq, spyref2_Target.F_eq, check_eq, fault_eq, Option.bind_some, Option.bind_some]
  by_cases hF : fault mn_ mx_ sp ac = 0
  · have h := fault_ok hF
    have l0 := h.lo
    have l1 := h.hi
    have l2 := h.le
    simp only [if_pos hF, within_eq, in_eq, Option.bind_some]
    by_cases c1 : mn_ ≤ fr ∧ fr ≤ mx_
    · have tm : (ang.tmod 4294967296 - ang) % 4294967296 = 0 ∧ -4294967296 < ang.tmod 4294967296 ∧ ang.tmod 4294967296 < 4294967296 := by
        have e := Int.tmod_add_mul_tdiv ang 4294967296
        have l := Int.tmod_lt_of_pos ang (b := 4294967296) (by omega)
        have g := Int.lt_tmod_of_pos ang (b := 4294967296) (by omega)
        exact ⟨by omega, by omega, by omega⟩
      simp only [decide_eq_true c1, if_true]
      rw [mod_eq ang (by omega) (by omega), mod_eq mn_ (by omega) (by omega), Option.bind_some, Option.bind_some, wrap_id (x := ang % 4294967296 - mn_ % 4294967296) (by omega) (by omega), mod_eq _ (by omega) (by omega), Option.bind_some, wrap_id (x := mn_ + (ang % 4294967296 - mn_ % 4294967296) % 4294967296) (by omega) (by omega)]
      have R := rtarget_l0 (sp := sp) (ac := ac) l0 l1 c1.1 c1.2 tm.2.1 tm.2.2 tm.1 13 (-6) false 0 (by omega) (by omega) (fun h => by cases h) (fun _ q q1 q2 q3 q4 => by omega)
      obtain ⟨p, hp⟩ : ∃ p, p = mn_ + (ang % 4294967296 - mn_ % 4294967296) % 4294967296 := ⟨_, rfl⟩
      rw [← hp]
      have pp : (p - ang) % 4294967296 = 0 ∧ mn_ ≤ p ∧ p < mn_ + 4294967296 := by omega
      by_cases c2 : p > mx_
      · rw [if_pos c2]
        refine ⟨(0, 4), rfl, ?_, fun h => by cases h⟩
        rcases R with ⟨r, r1, hi, hh, hb⟩ | ⟨r1, _⟩
        · have := hb.1
          omega
        · exact r1
      · rw [if_neg c2]
        obtain ⟨r, r1, hi, hh, hb⟩ := target_l0 (sp := sp) (ac := ac) l0 l1 l2 c1.1 c1.2 10 p p (ang := ang) (by omega) pp.2.1 (by omega) pp.1 (Or.inr ⟨rfl, by omega, pp.2.2⟩)
        refine ⟨(r, 0), r1, ?_, fun _ => ⟨hF, c1.1, c1.2, hb.1.1, hb.1.2.1⟩⟩
        rcases R with ⟨r', r1', hi', hh', hb'⟩ | ⟨_, hn⟩
        · rw [r1', best_uniq hh hh' hb hb']
        · exact (hn r hb.1.1 hb.1.2.1 hb.1.2.2.2).elim
    · simp only [decide_eq_false c1]
      exact ⟨(0, 4), rfl, rfl, fun h => by cases h⟩
  · simp only [if_neg hF]
    exact ⟨_, rfl, rfl, fun h => absurd h hF⟩
theorem SlewTargets : PureS := by
  intro a0 a1 a2 a3 fr ang _ _ _ _ _ w
  refine rounds (g := fun k => spylaw2_SlewTargets.f k a0 a1 a2 a3 fr ang) ?_
  show spylaw2_SlewTargets.F a0 a1 a2 a3 fr ang = some true
  obtain ⟨r, h1, h2, _⟩ := target_all a0 a1 a2 a3 fr ang w
  rw [spylaw2_SlewTargets.F_eq, axes_true, h1, h2]
  simp

end Go.Proofs.Ytchmfnmnijhjfaa.Pure
