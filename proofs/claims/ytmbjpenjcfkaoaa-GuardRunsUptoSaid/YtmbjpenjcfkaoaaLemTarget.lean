/- Positions of angles. -/
import Derived.Test.YtmbjpenjcfkaoaaEA0
import Derived.Test.YtmbjpenjcfkaoaaEA1
import Derived.Test.YtmbjpenjcfkaoaaEA2
import Derived.Test.YtmbjpenjcfkaoaaEA3
import Derived.Test.YtmbjpenjcfkaoaaEA4
import Derived.Test.YtmbjpenjcfkaoaaPl
import Derived.Test.YtmbjpenjcfkaoaaLemAxis
namespace Go.Proofs.Ytmbjpenjcfkaoaa.Pure
set_option linter.unusedVariables false
set_option linter.unusedSimpArgs false
open Go Go.RowKit Go.Proofs.Ytmbjpenjcfkaoaa.Pv Go.Proofs.Ytmbjpenjcfkaoaa.Pl Go.Proofs.Ytmbjpenjcfkaoaa.EA

/-! The position of an angle, both ways. -/
theorem mod_eq (x : Int) (h0 : -9223372036854775808 ≤ x) (h1 : x ≤ 9223372036854775807) : slew_mod x = some (x % 4294967296) := by
  rw [slew_mod_eq]
  simp only [dt]
  have e : x.tmod 4294967296 = if 0 ≤ x ∨ x % 4294967296 = 0 then x % 4294967296 else x % 4294967296 - 4294967296 := by
    rw [Int.tmod_eq_emod]
    have : ((4294967296 : Int) ∣ x) ↔ x % 4294967296 = 0 := Int.dvd_iff_emod_eq_zero
    by_cases c : 0 ≤ x
    · simp [c]
    · by_cases d : x % 4294967296 = 0
      · simp [d, this.2 d]
      · have nd : ¬ (4294967296 : Int) ∣ x := fun h => d (this.1 h)
        simp [c, d, nd]
  rw [e]
  split
  · rw [if_neg (by omega)]
  · rw [if_pos (by omega), wi (by omega) (by omega)]
    congr 1
    omega
theorem abs_eq (x : Int) (h0 : -9223372036854775807 ≤ x) (h1 : x ≤ 9223372036854775807) : slew_abs x = some (x.natAbs : Int) := by
  rw [slew_abs_eq, wi (x := 0 - x) (by omega) (by omega)]
  congr 1
  split <;> omega
theorem dist_eq (a b : Int) (h0 : -4611686018427387903 ≤ a) (h1 : a ≤ 4611686018427387903) (h2 : -4611686018427387903 ≤ b) (h3 : b ≤ 4611686018427387903) : spyref2_distance a b = some ((a - b).natAbs : Int) := by
  rw [spyref2_distance_eq]
  simp only [dt]
  split
  · rw [wi (by omega) (by omega)]
    congr 1
    omega
  · rw [wi (by omega) (by omega)]
    congr 1
    omega
/-- best is the nearest to fr, of two the smaller one, of the positions below hi that are congruent to an angle. -/
def Best (mn_ mx_ fr ang hi best : Int) : Prop := (mn_ ≤ best ∧ best ≤ mx_ ∧ best < hi ∧ (best - ang) % 4294967296 = 0) ∧ ∀ q, mn_ ≤ q → q ≤ mx_ → q < hi → (q - ang) % 4294967296 = 0 → (best - fr).natAbs < (q - fr).natAbs ∨ ((best - fr).natAbs = (q - fr).natAbs ∧ best ≤ q)
theorem best_uniq {mn_ mx_ fr ang hi hi' b b' : Int} (hh : mx_ < hi) (hh' : mx_ < hi') (h : Best mn_ mx_ fr ang hi b) (h' : Best mn_ mx_ fr ang hi' b') : b = b' := by
  have x := h.2 b' h'.1.1 h'.1.2.1 (by have := h'.1.2.1; omega) h'.1.2.2.2
  have y := h'.2 b h.1.1 h.1.2.1 (by have := h.1.2.1; omega) h.1.2.2.2
  omega
theorem best_next {mn_ mx_ fr ang p b : Int} (h : Best mn_ mx_ fr ang p b) (hp : (p - ang) % 4294967296 = 0) (h1 : mn_ ≤ p) (h2 : p ≤ mx_) : Best mn_ mx_ fr ang (p + 4294967296) (if (p - fr).natAbs < (b - fr).natAbs then p else b) := by
  obtain ⟨⟨b1, b2, b3, b4⟩, hb⟩ := h
  by_cases c : (p - fr).natAbs < (b - fr).natAbs
  · rw [if_pos c]
    refine ⟨⟨h1, h2, by omega, hp⟩, fun q q1 q2 q3 q4 => ?_⟩
    by_cases e : q < p
    · have := hb q q1 q2 e q4
      omega
    · have : q = p := by omega
      omega
  · rw [if_neg c]
    refine ⟨⟨b1, b2, by omega, b4⟩, fun q q1 q2 q3 q4 => ?_⟩
    by_cases e : q < p
    · exact hb q q1 q2 e q4
    · have : q = p := by omega
      omega
theorem best_over {mn_ mx_ fr ang p b hi : Int} (h : Best mn_ mx_ fr ang p b) (hp : (p - ang) % 4294967296 = 0) (h2 : mx_ < p) (h3 : p ≤ hi) : Best mn_ mx_ fr ang hi b := by
  obtain ⟨⟨b1, b2, b3, b4⟩, hb⟩ := h
  exact ⟨⟨b1, b2, by omega, b4⟩, fun q q1 q2 q3 q4 => hb q q1 q2 (by omega) q4⟩
theorem target_l0 {mn_ mx_ sp ac fr ang : Int} (l0 : -17179869184 ≤ mn_) (l1 : mx_ ≤ 17179869184) (l2 : mn_ ≤ mx_) (f0 : mn_ ≤ fr) (f1 : fr ≤ mx_) : ∀ (n : Nat) (p b : Int), mx_ - p < (n : Int) * 4294967296 → mn_ ≤ p → p ≤ mx_ + 4294967296 → (p - ang) % 4294967296 = 0 →
    (Best mn_ mx_ fr ang p b ∨ (b = p ∧ p ≤ mx_ ∧ p < mn_ + 4294967296)) → ∃ r, slew_Target.p10 fr p b (mn_, mx_, sp, ac) = some (r, 0) ∧ ∃ hi, mx_ < hi ∧ Best mn_ mx_ fr ang hi r := by
  intro n
  induction n with
  | zero =>
    intro p b h1 h2 h3 h4 h5
    rw [slew_Target.p10_eq]
    simp only [dt, df, not_t, not_f]
    rw [if_neg (by omega)]
    rcases h5 with h5 | h5
    · exact ⟨b, rfl, p, by omega, h5⟩
    · omega
  | succ n ih =>
    intro p b h1 h2 h3 h4 h5
    by_cases c : p ≤ mx_
    · have bb : -34359738368 ≤ b ∧ b ≤ 34359738368 := by
        rcases h5 with h5 | h5
        · have := h5.1
          omega
        · omega
      rw [slew_Target.p10_eq]
      simp only [dt, df, not_t, not_f]
      rw [if_pos c, wi (x := p - fr) (by omega) (by omega), wi (x := b - fr) (by omega) (by omega), abs_eq _ (by omega) (by omega), abs_eq _ (by omega) (by omega), bind_some_, bind_some_, wi (x := p + 4294967296) (by omega) (by omega)]
      have e : (((n + 1 : Nat)) : Int) * 4294967296 = (n : Int) * 4294967296 + 4294967296 := by omega
      rcases h5 with h5 | ⟨rfl, h5, h6⟩
      · have nx := best_next h5 h4 h2 c
        by_cases d : (p - fr).natAbs < (b - fr).natAbs
        · rw [if_pos d] at nx
          rw [if_pos (by omega)]
          exact ih _ _ (by omega) (by omega) (by omega) (by omega) (Or.inl nx)
        · rw [if_neg d] at nx
          rw [if_neg (by omega)]
          exact ih _ _ (by omega) (by omega) (by omega) (by omega) (Or.inl nx)
      · rw [if_neg (by omega)]
        refine ih _ _ (by omega) (by omega) (by omega) (by omega) (Or.inl ⟨⟨h2, c, by omega, h4⟩, fun q q1 q2 q3 q4 => ?_⟩)
        have : q = b := by omega
        omega
    · rw [slew_Target.p10_eq]
      simp only [dt, df, not_t, not_f]
      rw [if_neg c]
      rcases h5 with h5 | h5
      · exact ⟨b, rfl, p, by omega, h5⟩
      · omega
theorem rtarget_l0 {mn_ mx_ sp ac fr ang rest : Int} (l0 : -17179869184 ≤ mn_) (l1 : mx_ ≤ 17179869184) (f0 : mn_ ≤ fr) (f1 : fr ≤ mx_) (r0 : -4294967296 < rest) (r1 : rest < 4294967296) (ra : (rest - ang) % 4294967296 = 0) : ∀ (n : Nat) (k : Int) (found : Bool) (b : Int), k + (n : Int) = 7 → -6 ≤ k → 
    (found = true → Best mn_ mx_ fr ang (rest + k * 4294967296) b) → (found = false → ∀ q, mn_ ≤ q → q ≤ mx_ → q < rest + k * 4294967296 → (q - ang) % 4294967296 = 0 → False) → 
    (∃ r, spyref2_Target.p10 fr rest found b k (mn_, mx_, sp, ac) = some (r, 0) ∧ ∃ hi, mx_ < hi ∧ Best mn_ mx_ fr ang hi r) ∨ (spyref2_Target.p10 fr rest found b k (mn_, mx_, sp, ac) = some (0, 4) ∧ ∀ q, mn_ ≤ q → q ≤ mx_ → (q - ang) % 4294967296 = 0 → False) := by
  intro n
  induction n with
  | zero =>
    intro k found b hk hk2 h1 h2
    rw [spyref2_Target.p10_eq]
    simp only [dt, df, not_t, not_f]
    rw [if_neg (by omega)]
    cases found with
    | true => exact Or.inl ⟨b, by rw [if_neg (by simp)], _, by omega, h1 rfl⟩
    | false => exact Or.inr ⟨by rw [if_pos rfl], fun q q1 q2 q3 => h2 rfl q q1 q2 (by omega) q3⟩
  | succ n ih =>
    intro k found b hk hk2 h1 h2
    have pk : (rest + k * 4294967296 - ang) % 4294967296 = 0 := by omega
    rw [spyref2_Target.p10_eq]
    simp only [dt, df, not_t, not_f]
    rw [if_pos (by omega), wi (x := k * 4294967296) (by omega) (by omega), wi (x := rest + k * 4294967296) (by omega) (by omega), wi (x := k + 1) (by omega) (by omega), within_eq, bind_some_]
    have ek : rest + (k + 1) * 4294967296 = rest + k * 4294967296 + 4294967296 := by omega
    by_cases c : mn_ ≤ rest + k * 4294967296 ∧ rest + k * 4294967296 ≤ mx_
    · rw [if_pos (decide_eq_true c)]
      cases found with
      | true =>
        have hb := h1 rfl
        have b1 := hb.1
        have nx := best_next hb pk c.1 c.2
        rw [if_pos rfl, dist_eq _ _ (by omega) (by omega) (by omega) (by omega), dist_eq _ _ (by omega) (by omega) (by omega) (by omega), bind_some_, bind_some_]
        by_cases d : (rest + k * 4294967296 - fr).natAbs < (b - fr).natAbs
        · rw [if_pos d] at nx
          rw [if_pos (by omega)]
          exact ih _ _ _ (by omega) (by omega) (fun _ => by rw [ek]; exact nx) (fun h => by cases h)
        · rw [if_neg d] at nx
          rw [if_neg (by omega)]
          exact ih _ _ _ (by omega) (by omega) (fun _ => by rw [ek]; exact nx) (fun h => by cases h)
      | false =>
        rw [if_neg (by simp)]
        refine ih _ _ _ (by omega) (by omega) (fun _ => ⟨⟨c.1, c.2, by omega, pk⟩, fun q q1 q2 q3 q4 => ?_⟩) (fun h => by cases h)
        by_cases e : q < rest + k * 4294967296
        · exact (h2 rfl q q1 q2 e q4).elim
        · have : q = rest + k * 4294967296 := by omega
          omega
    · rw [if_neg (by simpa using c)]
      refine ih _ _ _ (by omega) (by omega) (fun h => ?_) (fun h q q1 q2 q3 q4 => ?_)
      · have hb := h1 h
        by_cases e : mx_ < rest + k * 4294967296
        · exact best_over hb pk e (by omega)
        · have := hb.1
          omega
      · by_cases e : q < rest + k * 4294967296
        · exact h2 h q q1 q2 e q4
        · have : q = rest + k * 4294967296 := by omega
          omega
theorem target_all (mn_ mx_ sp ac fr ang : Int) (w : (Lit.int .i64 ang).wf = true) : ∃ r, slew_Target (mn_, mx_, sp, ac) fr ang = some r ∧ spyref2_Target (mn_, mx_, sp, ac) fr ang = some r ∧ (r.2 = 0 → fault mn_ mx_ sp ac = 0 ∧ mn_ ≤ fr ∧ fr ≤ mx_ ∧ mn_ ≤ r.1 ∧ r.1 ≤ mx_) := by
  have wa := wf64 w
  rw [slew_Target_eq, spyref2_Target_eq, check_eq, fault_eq, bind_some_, bind_some_]
  simp only [ne_t, not_t, df, dt, within_eq, in_eq, bind_some_]
  by_cases hF : fault mn_ mx_ sp ac = 0
  · have h := fault_ok hF
    have l0 := h.lo
    have l1 := h.hi
    have l2 := h.le
    have nF : ¬ (fault mn_ mx_ sp ac ≠ 0) := fun q => q hF
    simp only [if_neg nF]
    by_cases c1 : mn_ ≤ fr ∧ fr ≤ mx_
    · have tm : (ang.tmod 4294967296 - ang) % 4294967296 = 0 ∧ -4294967296 < ang.tmod 4294967296 ∧ ang.tmod 4294967296 < 4294967296 := by
        have e := Int.tmod_add_mul_tdiv ang 4294967296
        have l := Int.tmod_lt_of_pos ang (b := 4294967296) (by omega)
        have g := Int.lt_tmod_of_pos ang (b := 4294967296) (by omega)
        exact ⟨by omega, by omega, by omega⟩
      have n1 : ¬ ¬ (mn_ ≤ fr ∧ fr ≤ mx_) := fun q => q c1
      simp only [if_neg n1]
      rw [mod_eq ang (by omega) (by omega), mod_eq mn_ (by omega) (by omega), bind_some_, bind_some_, wi (x := ang % 4294967296 - mn_ % 4294967296) (by omega) (by omega), mod_eq _ (by omega) (by omega), bind_some_, wi (x := mn_ + (ang % 4294967296 - mn_ % 4294967296) % 4294967296) (by omega) (by omega)]
      have R := rtarget_l0 (sp := sp) (ac := ac) l0 l1 c1.1 c1.2 tm.2.1 tm.2.2 tm.1 13 (-6) false 0 (by omega) (by omega) (fun h => by cases h) (fun _ q q1 q2 q3 q4 => by omega)
      obtain ⟨p, hp⟩ : ∃ p, p = mn_ + (ang % 4294967296 - mn_ % 4294967296) % 4294967296 := ⟨_, rfl⟩
      rw [← hp]
      have pp : (p - ang) % 4294967296 = 0 ∧ mn_ ≤ p ∧ p < mn_ + 4294967296 := by omega
      by_cases c2 : p > mx_
      · rw [if_pos c2]
        refine ⟨(0, 4), rfl, ?_, fun h => by cases h⟩
        rcases R with ⟨r, r1, hi, hh, hb⟩ | ⟨r1, _⟩
        · have := hb.1
          omega
        · exact r1
      · rw [if_neg c2]
        obtain ⟨r, r1, hi, hh, hb⟩ := target_l0 (sp := sp) (ac := ac) l0 l1 l2 c1.1 c1.2 10 p p (ang := ang) (by omega) pp.2.1 (by omega) pp.1 (Or.inr ⟨rfl, by omega, pp.2.2⟩)
        refine ⟨(r, 0), r1, ?_, fun _ => ⟨hF, c1.1, c1.2, hb.1.1, hb.1.2.1⟩⟩
        rcases R with ⟨r', r1', hi', hh', hb'⟩ | ⟨_, hn⟩
        · rw [r1', best_uniq hh hh' hb hb']
        · exact (hn r hb.1.1 hb.1.2.1 hb.1.2.2.2).elim
    · simp only [if_pos c1]
      exact ⟨(0, 4), rfl, rfl, fun h => by cases h⟩
  · simp only [if_pos hF]
    exact ⟨_, rfl, rfl, fun h => absurd h hF⟩

end Go.Proofs.Ytmbjpenjcfkaoaa.Pure
