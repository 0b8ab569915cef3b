/- Heights. -/
import Derived.Test.YtionphbdphbpnaaGreatEA0
import Derived.Test.YtionphbdphbpnaaGreatEA1
import Derived.Test.YtionphbdphbpnaaGreatEA2
import Derived.Test.YtionphbdphbpnaaGreatEA3
import Derived.Test.YtionphbdphbpnaaGreatEA4
import Derived.Test.YtionphbdphbpnaaGreatPl
import Derived.Test.YtionphbdphbpnaaGreatLemNum
import Derived.Test.YtionphbdphbpnaaGreatLemDiv
import Derived.Test.YtionphbdphbpnaaGreatLemNight
import Derived.Test.YtionphbdphbpnaaGreatLemBound
namespace Go.Proofs.YtionphbdphbpnaaGreat.Pure
set_option linter.unusedVariables false
set_option linter.unusedSimpArgs false
open Go Go.RowKit Go.Proofs.YtionphbdphbpnaaGreat.Pv Go.Proofs.YtionphbdphbpnaaGreat.Pl Go.Proofs.YtionphbdphbpnaaGreat.EA

/-! Sines, directions: defined for every argument. -/
theorem sin_series : ∀ (l : List Int), (∀ k, k ∈ l → k ≠ 0) → l.length < 1000 → ∀ (u : Nat) (s : Int) (i : Nat) (x : Int), l.length - i = u → i ≤ l.length → Def (trig_series.p3 x s l l.length i) := by
  intro l hl hn u
  induction u with
  | zero =>
    intro s i x hu hi
    rw [trig_series.p3_eq, if_neg (by rw [dt]; omega)]
    exact .mk _
  | succ u ih =>
    intro s i x hu hi
    rw [trig_series.p3_eq, if_pos (by rw [dt]; omega), if_pos (by omega), if_pos (by omega), trig_times_eq]
    refine Def.bind ?_ fun r _ => ?_
    · exact (mulDiv_def _ _ _ (by omega)).bind fun _ _ => .mk _
    · have hi' : i < l.length := by omega
      rw [toNat_nat, getD_nat _ _ hi', wi_nat (by omega)]
      exact .no (hl _ (List.getElem_mem hi')) (ih _ (i + 1) x (by omega) (by omega))
theorem series_def (x : Int) (l : List Int) (h : ∀ k, k ∈ l → k ≠ 0) (hn : l.length < 1000) : Def (trig_series x l) := by
  rw [trig_series_eq]
  exact sin_series l h hn _ _ 0 x rfl (by omega)
theorem times_def (a b : Int) : Def (trig_times a b) := by
  rw [trig_times_eq]
  exact (mulDiv_def _ _ _ (by omega)).bind fun _ _ => .mk _
theorem quarter_def (t : Int) : Def (trig_quarter t) := by
  have p4 : ∀ (t : Int) (b : Bool), Def (trig_quarter.p4 t b) := by
    intro t b
    rw [trig_quarter.p4_eq]
    refine (mulDiv_def _ _ _ (by omega)).bind fun _ _ => (times_def _ _).bind fun _ _ => Def.ite (fun _ => ?_) (fun _ => ?_)
    · exact (series_def _ _ (by decide) (by decide)).bind fun _ _ => (roundDiv_def _ _).bind fun _ _ => .mk _
    · exact (series_def _ _ (by decide) (by decide)).bind fun _ _ => (times_def _ _).bind fun _ _ => (roundDiv_def _ _).bind fun _ _ => .mk _
  rw [trig_quarter_eq]
  exact Def.ite (fun _ => p4 _ _) (fun _ => p4 _ _)
theorem sin_def (a : Int) : Def (trig_Sin a) := by
  rw [trig_Sin_eq]
  repeat' (refine Def.ite (fun _ => ?_) (fun _ => ?_))
  all_goals exact (quarter_def _).bind fun _ _ => .mk _
theorem cos_def (a : Int) : Def (trig_Cos a) := by
  rw [trig_Cos_eq]
  exact (sin_def _).bind fun _ _ => .mk _
theorem grow_p3 (b : Int × Int × Int) : ∀ (u : Nat) (v : Int × Int × Int), (-1048576 ≤ v.1 ∧ v.1 ≤ 1048576) → (-1048576 ≤ v.2.1 ∧ v.2.1 ≤ 1048576) → (-1048576 ≤ v.2.2 ∧ v.2.2 ≤ 1048576) → ¬ (v.1 = 0 ∧ v.2.1 = 0 ∧ v.2.2 = 0) → 3145728 - (v.1.natAbs + v.2.1.natAbs + v.2.2.natAbs) ≤ u → Def (sphere_Grow.p3 v b) := by
  intro u
  induction u with
  | zero =>
    intro v h1 h2 h3 h4 h5
    rw [sphere_Grow.p3_eq, wi (x := 2 * v.1) (by omega) (by omega), wi (x := 2 * v.2.1) (by omega) (by omega), wi (x := 2 * v.2.2) (by omega) (by omega)]
    refine (sphereCheck_def _).bind fun e he => Def.ite (fun _ => .mk _) (fun hq => ?_)
    have : e = 0 := by simpa using hq
    have hv := (sphereCheck_val he).1 this
    simp only at hv
    omega
  | succ u ih =>
    intro v h1 h2 h3 h4 h5
    rw [sphere_Grow.p3_eq, wi (x := 2 * v.1) (by omega) (by omega), wi (x := 2 * v.2.1) (by omega) (by omega), wi (x := 2 * v.2.2) (by omega) (by omega)]
    refine (sphereCheck_def _).bind fun e he => Def.ite (fun _ => .mk _) (fun hq => ?_)
    have : e = 0 := by simpa using hq
    have hv := (sphereCheck_val he).1 this
    simp only at hv
    exact ih _ hv.1 hv.2.1 hv.2.2.1 hv.2.2.2 (by simp only; omega)
theorem grow_def (v : Int × Int × Int) : Def (sphere_Grow v) := by
  rw [sphere_Grow_eq]
  refine (sphereCheck_def _).bind fun e he => Def.ite (fun _ => .mk _) (fun hq => ?_)
  have : e = 0 := by simpa using hq
  have hv := (sphereCheck_val he).1 this
  exact grow_p3 _ 3145728 v hv.1 hv.2.1 hv.2.2.1 hv.2.2.2 (by omega)
theorem site_def (s : Int × Int) : Def (horizon_CheckSite s) := by
  rw [horizon_CheckSite_eq]
  repeat' (refine Def.ite (fun _ => ?_) (fun _ => ?_))
  all_goals exact .mk _
/-! Great numbers: their operations are defined. -/
theorem len32_def (x : Int) : Def (bits_Len32 x) := by
  have p7 : ∀ x n, Def (bits_Len32.p7 x n) := by
    intro x n
    rw [bits_Len32.p7_eq]
    have h0 : 0 ≤ IntKind.u8.wrap x ∧ IntKind.u8.wrap x < 256 := by rw [IntKind.wrap_u8]; omega
    exact .yes h0.1 (.yes (Int.lt_of_lt_of_le h0.2 (by decide +kernel)) (.mk _))
  have p4 : ∀ x n, Def (bits_Len32.p4 x n) := by
    intro x n
    rw [bits_Len32.p4_eq]
    exact Def.ite (fun _ => p7 _ _) (fun _ => p7 _ _)
  rw [bits_Len32_eq]
  exact Def.ite (fun _ => p4 _ _) (fun _ => p4 _ _)
theorem trim_ok : ∀ (u : Nat) (m : List Int), m.length ≤ u → m.length < 1000 → ∃ r, big_trim.p1 m = some r ∧ r.length ≤ m.length := by
  intro u
  induction u with
  | zero =>
    intro m hu hm
    rw [big_trim.p1_eq, if_neg (by rw [dt]; omega)]
    exact ⟨m, rfl, Nat.le_refl _⟩
  | succ u ih =>
    intro m hu hm
    rw [big_trim.p1_eq]
    by_cases h : (m.length : Int) > 0
    · rw [if_pos (by rw [dt]; exact h), wi (x := (m.length : Int) - 1) (by omega) (by omega), if_pos (by omega), if_pos (by omega)]
      by_cases hz : ((m.getD ((m.length : Int) - 1).toNat 0) == 0) = true
      · rw [if_pos hz, if_pos (by omega), if_pos (by omega)]
        have e : (m.take ((m.length : Int) - 1).toNat).length = m.length - 1 := by
          rw [List.length_take]
          omega
        obtain ⟨r, h1, h2⟩ := ih (m.take ((m.length : Int) - 1).toNat) (by omega) (by omega)
        exact ⟨r, h1, by omega⟩
      · rw [if_neg hz]
        exact ⟨m, rfl, Nat.le_refl _⟩
    · rw [if_neg (by rw [dt]; exact h)]
      exact ⟨m, rfl, Nat.le_refl _⟩
theorem made_ok (b : Bool) (m : List Int) (hm : m.length < 1000) : ∃ r, big_made b m = some r ∧ r.2.length ≤ m.length := by
  obtain ⟨r, h1, h2⟩ := trim_ok m.length m (Nat.le_refl _) hm
  rw [big_made_eq, big_trim_eq, h1, bind_some_]
  by_cases h : b = true
  · rw [if_pos h]
    exact ⟨_, rfl, h2⟩
  · rw [if_neg h]
    exact ⟨_, rfl, h2⟩
theorem bigOf_ok (x : Int) : ∃ r, big_Of x = some r ∧ r.2.length ≤ 2 := by
  rw [big_Of_eq]
  by_cases h : decide (x < 0) = true
  · rw [if_pos h]
    obtain ⟨r, h1, h2⟩ := made_ok (decide (x < 0)) [IntKind.u32.wrap (IntKind.u64.wrap (0 - (IntKind.u64.wrap (x)))), IntKind.u32.wrap (Int.fdiv (IntKind.u64.wrap (0 - (IntKind.u64.wrap (x)))) 4294967296)] (by simp)
    rw [h1, bind_some_]
    exact ⟨r, rfl, h2⟩
  · rw [if_neg h]
    obtain ⟨r, h1, h2⟩ := made_ok (decide (x < 0)) [IntKind.u32.wrap (IntKind.u64.wrap (x)), IntKind.u32.wrap (Int.fdiv (IntKind.u64.wrap (x)) 4294967296)] (by simp)
    rw [h1, bind_some_]
    exact ⟨r, rfl, h2⟩
theorem bits_def (a : Bool × List Int) (h : a.2.length < 1000) : Def (big_Bits a) := by
  rw [big_Bits_eq]
  refine Def.ite (fun _ => .mk _) (fun hn => ?_)
  rw [eq_t] at hn
  rw [wi (x := (a.2.length : Int) - 1) (by omega) (by omega)]
  exact .yes (by omega) (.yes (by omega) ((len32_def _).bind fun _ _ => .mk _))
theorem limited_ok (b : Bool) (m : List Int) (hm : m.length < 1000) : ∃ r, big_limited b m = some r ∧ r.1.2.length ≤ m.length := by
  obtain ⟨r, h1, h2⟩ := made_ok b m hm
  obtain ⟨k, hk⟩ := bits_def r (by omega)
  rw [big_limited_eq, h1, bind_some_, hk, bind_some_]
  by_cases h : decide (k > 131072) = true
  · rw [if_pos h]
    exact ⟨_, rfl, by simp⟩
  · rw [if_neg h]
    exact ⟨_, rfl, h2⟩
section
variable {a b c : Bool × List Int}
theorem mul_p9 {i : Nat} {x : Int} (hi : i < a.2.length) (ha : a.2.length < 400) (hb : b.2.length < 400) (next : ∀ acc : List Int, acc.length = a.2.length + b.2.length → ∃ r, big_Mul.p5 a.2 (a.2.length : Int) ((i + 1 : Nat) : Int) a b c acc = some r ∧ r.1.2.length ≤ a.2.length + b.2.length) :
    ∀ (u j : Nat) (cy : Int) (acc : List Int), b.2.length - j = u → j ≤ b.2.length → acc.length = a.2.length + b.2.length → ∃ r, big_Mul.p9 (i : Int) x cy a.2 (a.2.length : Int) (i : Int) b.2 (b.2.length : Int) (j : Int) a b c acc = some r ∧ r.1.2.length ≤ a.2.length + b.2.length := by
  intro u
  induction u with
  | zero =>
    intro j cy acc hu hj hacc
    rw [big_Mul.p9_eq, if_neg (by rw [dt]; omega), wi (x := (i : Int) + (b.2.length : Int)) (by omega) (by omega), if_pos (by omega), if_pos (by omega), wi_nat (by omega)]
    exact next _ (by rw [List.length_set]; exact hacc)
  | succ u ih =>
    intro j cy acc hu hj hacc
    rw [big_Mul.p9_eq, if_pos (by rw [dt]; omega), if_pos (by omega), if_pos (by omega), wi (x := (i : Int) + (j : Int)) (by omega) (by omega), if_pos (by omega), if_pos (by omega), if_pos (by omega), if_pos (by omega), wi_nat (by omega)]
    exact ih (j + 1) _ _ (by omega) (by omega) (by rw [List.length_set]; exact hacc)
theorem mul_p5 (ha : a.2.length < 400) (hb : b.2.length < 400) : ∀ (u i : Nat) (acc : List Int), a.2.length - i = u → i ≤ a.2.length → acc.length = a.2.length + b.2.length → ∃ r, big_Mul.p5 a.2 (a.2.length : Int) (i : Int) a b c acc = some r ∧ r.1.2.length ≤ a.2.length + b.2.length := by
  intro u
  induction u with
  | zero =>
    intro i acc hu hi hacc
    rw [big_Mul.p5_eq, if_neg (by rw [dt]; omega)]
    obtain ⟨r, h1, h2⟩ := limited_ok (!(a.1 == b.1)) acc (by omega)
    rw [h1, bind_some_]
    exact ⟨r, rfl, by omega⟩
  | succ u ih =>
    intro i acc hu hi hacc
    rw [big_Mul.p5_eq, if_pos (by rw [dt]; omega), if_pos (by omega), if_pos (by omega)]
    exact mul_p9 (by omega) ha hb (fun acc' h => ih (i + 1) acc' (by omega) (by omega) h) b.2.length 0 0 acc (by omega) (by omega) hacc
theorem bigMul_ok (ha : a.2.length < 400) (hb : b.2.length < 400) : ∃ r, big_Mul a b = some r ∧ r.1.2.length ≤ a.2.length + b.2.length := by
  obtain ⟨x, hx⟩ := bits_def a (by omega)
  obtain ⟨y, hy⟩ := bits_def b (by omega)
  rw [big_Mul_eq, hx, hy, bind_some_, bind_some_]
  by_cases h : decide (IntKind.i64.wrap (x + y) > 131073) = true
  · rw [if_pos h]
    exact ⟨_, rfl, by simp⟩
  · rw [if_neg h, if_pos rfl, wi (x := (a.2.length : Int) + (b.2.length : Int)) (by omega) (by omega), if_pos (by omega), if_pos (by omega)]
    exact mul_p5 ha hb a.2.length 0 _ (by omega) (by omega) (by rw [List.length_replicate]; omega)
theorem sphereMul_ok (ha : a.2.length < 400) (hb : b.2.length < 400) : ∃ r, sphere_mul a b = some r ∧ r.2.length ≤ a.2.length + b.2.length := by
  obtain ⟨r, h1, h2⟩ := bigMul_ok ha hb
  rw [sphere_mul_eq, h1, bind_some_]
  exact ⟨_, rfl, h2⟩
end
theorem square_ok (x : Int) : ∃ r, sphere_square x = some r ∧ r.2.length ≤ 4 := by
  obtain ⟨a, h1, h2⟩ := bigOf_ok x
  obtain ⟨r, h3, h4⟩ := sphereMul_ok (a := a) (b := a) (by omega) (by omega)
  rw [sphere_square_eq, h1, bind_some_, bind_some_, h3, bind_some_]
  exact ⟨r, rfl, by omega⟩
theorem norms_ok (u v : Int × Int × Int) : ∃ r, sphere_norms u v = some r ∧ r.2.length ≤ 4 := by
  rw [sphere_norms_eq, sphere_dot_eq, sphere_dot_eq, bind_some_]
  obtain ⟨a, h1, h2⟩ := bigOf_ok (IntKind.i64.wrap ((IntKind.i64.wrap ((IntKind.i64.wrap (u.1 * u.1)) + (IntKind.i64.wrap (u.2.1 * u.2.1)))) + (IntKind.i64.wrap (u.2.2 * u.2.2))))
  obtain ⟨b, h3, h4⟩ := bigOf_ok (IntKind.i64.wrap ((IntKind.i64.wrap ((IntKind.i64.wrap (v.1 * v.1)) + (IntKind.i64.wrap (v.2.1 * v.2.1)))) + (IntKind.i64.wrap (v.2.2 * v.2.2))))
  obtain ⟨r, h5, h6⟩ := sphereMul_ok (a := a) (b := b) (by omega) (by omega)
  rw [h1, bind_some_, bind_some_, h3, bind_some_, h5, bind_some_]
  exact ⟨r, rfl, by omega⟩
theorem cmpInt_def (x y : Int) : Def (cmp_Compare_int x y) := by
  rw [cmp_Compare_int_eq, cmp_isNaN_int_eq, cmp_isNaN_int_eq, bind_some_, bind_some_]
  repeat' (refine Def.ite (fun _ => ?_) (fun _ => ?_))
  all_goals exact .mk _
theorem cmpU_def (x y : Int) : Def (cmp_Compare_uint32 x y) := by
  rw [cmp_Compare_uint32_eq, cmp_isNaN_uint32_eq, cmp_isNaN_uint32_eq, bind_some_, bind_some_]
  repeat' (refine Def.ite (fun _ => ?_) (fun _ => ?_))
  all_goals exact .mk _
theorem cmpMag_def (a b : List Int) (ha : a.length < 1000) (hb : b.length < 1000) : Def (big_cmpMag a b) := by
  rw [big_cmpMag_eq]
  refine Def.ite (fun _ => (cmpInt_def _ _).bind fun _ _ => .mk _) (fun hn => ?_)
  rw [ne_t] at hn
  have e : a.length = b.length := by omega
  have p4 : ∀ (u : Nat), u ≤ a.length → Def (big_cmpMag.p4 a b ((u : Int) - 1)) := by
    intro u
    induction u with
    | zero =>
      intro _
      rw [big_cmpMag.p4_eq, if_neg (by rw [dt]; omega)]
      exact .mk _
    | succ u ih =>
      intro hu
      rw [big_cmpMag.p4_eq, if_pos (by rw [dt]; omega)]
      refine .yes (by omega) (.yes (by omega) (.yes (by omega) (.yes (by omega) (Def.ite (fun _ => ?_) (fun _ => ?_)))))
      · exact .yes (by omega) (.yes (by omega) (.yes (by omega) (.yes (by omega) ((cmpU_def _ _).bind fun _ _ => .mk _))))
      · rw [show (((u + 1 : Nat) : Int) - 1) = (u : Int) by omega, wi (x := (u : Int) - 1) (by omega) (by omega)]
        exact ih (by omega)
  rw [wi (x := (a.length : Int) - 1) (by omega) (by omega)]
  exact p4 a.length (Nat.le_refl _)
theorem bigCmp_def (a b : Bool × List Int) (ha : a.2.length < 1000) (hb : b.2.length < 1000) : Def (big_Cmp a b) := by
  have sg : ∀ a, Def (big_Sign a) := by
    intro a
    rw [big_Sign_eq]
    repeat' (refine Def.ite (fun _ => ?_) (fun _ => ?_))
    all_goals exact .mk _
  rw [big_Cmp_eq]
  refine Def.ite (fun _ => (sg _).bind fun _ _ => (sg _).bind fun _ _ => (cmpInt_def _ _).bind fun _ _ => .mk _) (fun _ => Def.ite (fun _ => ?_) (fun _ => ?_))
  · exact (cmpMag_def _ _ hb ha).bind fun _ _ => .mk _
  · exact (cmpMag_def _ _ ha hb).bind fun _ _ => .mk _
theorem cos_p6 {d : Int} {b : Bd} {n g : Bool × List Int} (hn : n.2.length ≤ 4) (hg : g.2.length ≤ 8) : ∀ (u : Nat) (lo hi : Int), 0 ≤ lo → lo ≤ hi → hi ≤ 1073741825 → hi - lo ≤ u → Def (sphere_Cosine.p6 d lo hi b n g) := by
  intro u
  induction u with
  | zero =>
    intro lo hi h0 h1 h2 h3
    rw [sphere_Cosine.p6_eq, wi (x := hi - lo) (by omega) (by omega), if_neg (by rw [dt]; omega)]
    obtain ⟨x, e1, e2⟩ := square_ok lo
    obtain ⟨y, e3, e4⟩ := sphereMul_ok (a := x) (b := n) (by omega) (by omega)
    rw [e1, bind_some_, e3, bind_some_]
    refine (bigCmp_def _ _ (by omega) (by omega)).bind fun _ _ => ?_
    repeat' (refine Def.ite (fun _ => ?_) (fun _ => ?_))
    all_goals exact .mk _
  | succ u ih =>
    intro lo hi h0 h1 h2 h3
    rw [sphere_Cosine.p6_eq, wi (x := hi - lo) (by omega) (by omega), wi (x := lo + hi) (by omega) (by omega), Int.tdiv_eq_ediv_of_nonneg (by omega), wi (x := (lo + hi) / 2) (by omega) (by omega)]
    refine Def.ite (fun h => ?_) (fun _ => ?_)
    · rw [dt] at h
      obtain ⟨x, e1, e2⟩ := square_ok ((lo + hi) / 2)
      obtain ⟨y, e3, e4⟩ := sphereMul_ok (a := x) (b := n) (by omega) (by omega)
      rw [e1, bind_some_, e3, bind_some_]
      refine (bigCmp_def _ _ (by omega) (by omega)).bind fun _ _ => Def.ite (fun _ => ?_) (fun _ => ?_)
      · exact ih _ _ (by omega) (by omega) (by omega) (by omega)
      · exact ih _ _ (by omega) (by omega) (by omega) (by omega)
    · obtain ⟨x, e1, e2⟩ := square_ok lo
      obtain ⟨y, e3, e4⟩ := sphereMul_ok (a := x) (b := n) (by omega) (by omega)
      rw [e1, bind_some_, e3, bind_some_]
      refine (bigCmp_def _ _ (by omega) (by omega)).bind fun _ _ => ?_
      repeat' (refine Def.ite (fun _ => ?_) (fun _ => ?_))
      all_goals exact .mk _
theorem cosine_def (u v : Int × Int × Int) : Def (sphere_Cosine u v) := by
  have both : Def (sphere_both u v) := by
    rw [sphere_both_eq]
    exact (sphereCheck_def _).bind fun _ _ => Def.ite (fun _ => (sphereCheck_def _).bind fun _ _ => .mk _) (fun _ => .mk _)
  rw [sphere_Cosine_eq]
  refine both.bind fun _ _ => Def.ite (fun _ => .mk _) (fun _ => ?_)
  rw [sphere_dot_eq, bind_some_]
  obtain ⟨n, h1, h2⟩ := norms_ok u v
  obtain ⟨x, h3, h4⟩ := square_ok (IntKind.i64.wrap ((IntKind.i64.wrap ((IntKind.i64.wrap (u.1 * v.1)) + (IntKind.i64.wrap (u.2.1 * v.2.1)))) + (IntKind.i64.wrap (u.2.2 * v.2.2))))
  obtain ⟨y, h5, h6⟩ := square_ok 1073741824
  obtain ⟨g, h7, h8⟩ := sphereMul_ok (a := x) (b := y) (by omega) (by omega)
  rw [h1, bind_some_, h3, bind_some_, h5, bind_some_, h7, bind_some_]
  exact cos_p6 h2 (by omega) 1073741825 0 1073741825 (by omega) (by omega) (by omega) (by omega)
/-! Heights are defined. -/
theorem floorDiv_def (a b : Int) : Def (num_FloorDiv a b) := by
  rw [num_FloorDiv_eq]
  refine Def.ite (fun _ => .mk _) (fun h => ?_)
  rw [dt] at h
  exact .no (by omega) (.no (by omega) (Def.ite (fun _ => .mk _) (fun _ => .mk _)))
theorem meets_def (a : Bd) (c : Int) : Def (trig_meets a c) := by
  rw [trig_meets_eq]
  exact (floorDiv_def _ _).bind fun _ _ => (ceilDiv_def _ _).bind fun _ _ => .mk _
theorem Def.of {α : Type} {o : Option α} {p : α → Prop} (h : ∃ c, o = some c ∧ p c) : Def o := ⟨h.choose, h.choose_spec.1⟩
theorem wave_def (a : Bd) (p : Int) : Def (trig_wave a p) := by
  have p8 : ∀ (p lo hi : Int) (a b : Bd), Def (trig_wave.p8 p lo hi a b) := by
    intro p lo hi a b
    rw [trig_wave.p8_eq]
    exact (meets_def _ _).bind fun _ _ => Def.ite (fun _ => (Def.of (ofFix _ _)).bind fun _ _ => .mk _) (fun _ => (Def.of (ofFix _ _)).bind fun _ _ => .mk _)
  rw [trig_wave_eq]
  refine (Def.of (normArc a)).bind fun _ _ => Def.ite (fun _ => ?_) (fun _ => ?_)
  · rw [spyglass_bound_None_api_Fix_eq]
    exact .mk _
  · exact (cos_def _).bind fun _ _ => (cos_def _).bind fun _ _ => (meets_def _ _).bind fun _ _ => Def.ite (fun _ => p8 _ _ _ _ _) (fun _ => p8 _ _ _ _ _)
theorem wave1_def (a : Bd) (p : Int) : Def (trig_wave_1 a p) := by
  have p8 : ∀ (p lo hi : Int) (a b : Bd), Def (trig_wave_1.p8 p lo hi a b) := by
    intro p lo hi a b
    rw [trig_wave_1.p8_eq]
    exact (meets_def _ _).bind fun _ _ => Def.ite (fun _ => (Def.of (ofFix _ _)).bind fun _ _ => .mk _) (fun _ => (Def.of (ofFix _ _)).bind fun _ _ => .mk _)
  rw [trig_wave_1_eq]
  refine (Def.of (normArc a)).bind fun _ _ => Def.ite (fun _ => ?_) (fun _ => ?_)
  · rw [spyglass_bound_None_api_Fix_eq]
    exact .mk _
  · exact (sin_def _).bind fun _ _ => (sin_def _).bind fun _ _ => (meets_def _ _).bind fun _ _ => Def.ite (fun _ => p8 _ _ _ _ _) (fun _ => p8 _ _ _ _ _)
theorem cosB_def (a : Bd) : Def (trig_CosBound a) := by
  rw [trig_CosBound_eq]
  exact (wave_def _ _).bind fun _ _ => .mk _
theorem sinB_def (a : Bd) : Def (trig_SinBound a) := by
  rw [trig_SinBound_eq]
  exact (wave1_def _ _).bind fun _ _ => .mk _
theorem sidereal_def (r : Int × Int × Int × Int) (t : Bd) : Def (scale_Sidereal r t) := by
  have bad : Def ((spyglass_bound_None_api_Arc).bind fun r4 => some r4) := by
    rw [spyglass_bound_None_api_Arc_eq]
    exact .mk _
  rw [scale_Sidereal_eq]
  refine (Def.of (exactTick _)).bind fun _ _ => (Def.of (subTick _ _)).bind fun _ _ => (rate_def r).bind fun e he => Def.ite (fun hq => Def.ite (fun _ => bad) (fun _ => ?_)) (fun _ => bad)
  have : e = 0 := by simpa using hq
  subst this
  have h2 := fracCheck_ok (rate_ok he).1
  refine (mulDiv_def' _ _ _).bind fun _ _ => (mulDivUp_def _ _ _ (by omega)).bind fun _ _ => Def.ite (fun _ => Def.ite (fun _ => bad) (fun _ => ?_)) (fun _ => bad)
  exact (Def.of (ofArc _ _)).bind fun _ _ => (Def.of (exactArc _)).bind fun _ _ => (Def.of (addArc _ _)).bind fun _ _ => .mk _
theorem height_def (s : Int × Int) (t : Bd) (v : Int × Int × Int) : Def (horizon_Height s t v) := by
  rw [horizon_Height_eq]
  refine (site_def _).bind fun _ _ => (sphereCheck_def _).bind fun _ _ => ?_
  rw [or_errs, bind_some_]
  refine Def.ite (fun _ => ?_) (fun _ => ?_)
  · rw [spyglass_bound_None_api_Fix_eq]
    exact .mk _
  refine (grow_def _).bind fun _ _ => (Def.of (exactArc _)).bind fun _ _ => (Def.of (addArc _ _)).bind fun _ _ => (Def.of (exactArc _)).bind fun _ _ => (cosB_def _).bind fun _ _ => (Def.of (scaleFix _ _ _ (by omega))).bind fun _ _ => (sinB_def _).bind fun _ _ => (Def.of (scaleFix _ _ _ (by omega))).bind fun _ _ => (Def.of (addFix _ _)).bind fun _ _ => (sinB_def _).bind fun _ _ => (Def.of (scaleFix _ _ _ (by omega))).bind fun _ _ => (cosB_def _).bind fun _ _ => (Def.of (mulFix _ _ _ (by omega))).bind fun _ _ => (Def.of (addFix _ _)).bind fun _ _ => (Def.of (exactFix _)).bind fun _ _ => (Def.of (rootFix _ _)).bind fun _ _ => (Def.of (divFix _ _ _)).bind fun _ _ => Def.ite (fun _ => .mk _) (fun _ => ?_)
  exact (Def.of (ofFix _ _)).bind fun _ _ => (meetFix _ _).bind fun _ _ => .mk _

end Go.Proofs.YtionphbdphbpnaaGreat.Pure
