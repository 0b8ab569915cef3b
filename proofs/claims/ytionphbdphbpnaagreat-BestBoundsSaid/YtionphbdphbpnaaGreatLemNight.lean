/- Nights. -/
import Derived.Test.YtionphbdphbpnaaGreatEA0
import Derived.Test.YtionphbdphbpnaaGreatEA1
import Derived.Test.YtionphbdphbpnaaGreatEA2
import Derived.Test.YtionphbdphbpnaaGreatEA3
import Derived.Test.YtionphbdphbpnaaGreatEA4
import Derived.Test.YtionphbdphbpnaaGreatPl
import Derived.Test.YtionphbdphbpnaaGreatLemNum
import Derived.Test.YtionphbdphbpnaaGreatLemDiv
namespace Go.Proofs.YtionphbdphbpnaaGreat.Pure
set_option linter.unusedVariables false
set_option linter.unusedSimpArgs false
open Go Go.RowKit Go.Proofs.YtionphbdphbpnaaGreat.Pv Go.Proofs.YtionphbdphbpnaaGreat.Pl Go.Proofs.YtionphbdphbpnaaGreat.EA

/-! Nights: the program's check is the reference's. -/
theorem sphereCheck_def (v : Int × Int × Int) : Def (sphere_Check v) := by
  rw [sphere_Check_eq]
  repeat' (refine Def.ite (fun _ => ?_) (fun _ => ?_))
  all_goals exact .mk _
theorem sphereCheck_val {v : Int × Int × Int} {e : Int} (h : sphere_Check v = some e) : (e = 0 ↔ ((-1048576 ≤ v.1 ∧ v.1 ≤ 1048576) ∧ (-1048576 ≤ v.2.1 ∧ v.2.1 ≤ 1048576) ∧ (-1048576 ≤ v.2.2 ∧ v.2.2 ≤ 1048576) ∧ ¬ (v.1 = 0 ∧ v.2.1 = 0 ∧ v.2.2 = 0))) := by
  obtain ⟨x, y, z⟩ := v
  rw [sphere_Check_eq] at h
  simp only [dt, df, Bool.and_eq_true, eq_t] at h ⊢
  have hM : ((if (if x < y then y else x) < z then z else (if x < y then y else x)) > 1048576) ↔ (x > 1048576 ∨ y > 1048576 ∨ z > 1048576) := by
    by_cases h1 : x < y
    · simp only [if_pos h1]
      split <;> omega
    · simp only [if_neg h1]
      split <;> omega
  have hm : ((if z < (if y < x then y else x) then z else (if y < x then y else x)) < (-1048576)) ↔ (x < -1048576 ∨ y < -1048576 ∨ z < -1048576) := by
    by_cases h1 : y < x
    · simp only [if_pos h1]
      split <;> omega
    · simp only [if_neg h1]
      split <;> omega
  simp only [hM, hm] at h
  by_cases h1 : x > 1048576 ∨ y > 1048576 ∨ z > 1048576
  · rw [if_neg (fun q => q h1)] at h
    cases h
    constructor
    · intro q; cases q
    · intro q; omega
  · rw [if_pos h1] at h
    by_cases h2 : x < -1048576 ∨ y < -1048576 ∨ z < -1048576
    · rw [if_pos h2] at h
      cases h
      constructor
      · intro q; cases q
      · intro q; omega
    · rw [if_neg h2] at h
      by_cases h3 : x = 0 ∧ y = 0 ∧ z = 0
      · rw [if_pos h3] at h
        cases h
        constructor
        · intro q; cases q
        · intro q; exact absurd h3 q.2.2.2
      · rw [if_neg h3] at h
        cases h
        exact ⟨fun _ => ⟨by omega, by omega, by omega, h3⟩, fun _ => rfl⟩
theorem dir_val (v : Int × Int × Int) : spyref2_DirOK v = some (decide ((-1048576 ≤ v.1 ∧ v.1 ≤ 1048576) ∧ (-1048576 ≤ v.2.1 ∧ v.2.1 ≤ 1048576) ∧ (-1048576 ≤ v.2.2 ∧ v.2.2 ≤ 1048576) ∧ ¬ (v.1 = 0 ∧ v.2.1 = 0 ∧ v.2.2 = 0))) := by
  obtain ⟨x, y, z⟩ := v
  rw [spyref2_DirOK_eq]
  rw [spyref2_DirOK.p2_eq, if_pos (by decide), if_pos (by decide), if_pos (by decide)]
  show (if (decide (x < (-1048576))) = false then _ else _) = _
  simp only [df, dt]
  by_cases hx : -1048576 ≤ x ∧ x ≤ 1048576
  · rw [if_pos (by omega), if_neg (by show ¬ x > 1048576; omega)]
    rw [show IntKind.i64.wrap (0 + 1) = 1 from by decide +kernel]
    rw [spyref2_DirOK.p2_eq, if_pos (by decide), if_pos (by decide), if_pos (by decide)]
    show (if (decide (y < (-1048576))) = false then _ else _) = _
    simp only [df, dt]
    by_cases hy : -1048576 ≤ y ∧ y ≤ 1048576
    · rw [if_pos (by omega), if_neg (by show ¬ y > 1048576; omega)]
      rw [show IntKind.i64.wrap (1 + 1) = 2 from by decide +kernel]
      rw [spyref2_DirOK.p2_eq, if_pos (by decide), if_pos (by decide), if_pos (by decide)]
      show (if (decide (z < (-1048576))) = false then _ else _) = _
      simp only [df, dt]
      by_cases hz : -1048576 ≤ z ∧ z ≤ 1048576
      · rw [if_pos (by omega), if_neg (by show ¬ z > 1048576; omega)]
        rw [show IntKind.i64.wrap (2 + 1) = 3 from by decide +kernel]
        rw [spyref2_DirOK.p2_eq, if_neg (by decide)]
        congr 1
        rw [Bool.eq_iff_iff]
        simp [hx, hy, hz]
      · have : ¬ ((-1048576 ≤ x ∧ x ≤ 1048576) ∧ (-1048576 ≤ y ∧ y ≤ 1048576) ∧ (-1048576 ≤ z ∧ z ≤ 1048576) ∧ ¬ (x = 0 ∧ y = 0 ∧ z = 0)) := fun q => hz q.2.2.1
        rw [decide_eq_false this]
        refine ite_eq (fun _ => ?_) (fun _ => rfl)
        rw [if_pos (by show z > 1048576; omega)]
    · have : ¬ ((-1048576 ≤ x ∧ x ≤ 1048576) ∧ (-1048576 ≤ y ∧ y ≤ 1048576) ∧ (-1048576 ≤ z ∧ z ≤ 1048576) ∧ ¬ (x = 0 ∧ y = 0 ∧ z = 0)) := fun q => hy q.2.1
      rw [decide_eq_false this]
      refine ite_eq (fun _ => ?_) (fun _ => rfl)
      rw [if_pos (by show y > 1048576; omega)]
  · have : ¬ ((-1048576 ≤ x ∧ x ≤ 1048576) ∧ (-1048576 ≤ y ∧ y ≤ 1048576) ∧ (-1048576 ≤ z ∧ z ≤ 1048576) ∧ ¬ (x = 0 ∧ y = 0 ∧ z = 0)) := fun q => hx q.1
    rw [decide_eq_false this]
    refine ite_eq (fun _ => ?_) (fun _ => rfl)
    rw [if_pos (by show x > 1048576; omega)]
theorem dir_check (v : Int × Int × Int) : ∃ e, sphere_Check v = some e ∧ spyref2_DirOK v = some (decide (e = 0)) := by
  obtain ⟨e, he⟩ := sphereCheck_def v
  refine ⟨e, he, ?_⟩
  rw [dir_val]
  congr 1
  rw [decide_eq_decide]
  exact (sphereCheck_val he).symm
theorem within_in (n a b : Int) : prop_within n a b = spyref2_In n a b := by rw [prop_within_eq, spyref2_In_eq]
theorem in_val (n a b : Int) : spyref2_In n a b = some (decide (a ≤ n ∧ n ≤ b)) := by
  rw [spyref2_In_eq]
  simp only [dt]
  by_cases h : a ≤ n
  · rw [if_pos h]
    simp [h]
  · rw [if_neg h]
    simp [h]
/-! Comparison of fractions. -/
theorem compare_i (x y : Int) : cmp_Compare_int64 x y = some (if x < y then -1 else if x > y then 1 else 0) := by
  rw [cmp_Compare_int64_eq, cmp_isNaN_int64_eq, cmp_isNaN_int64_eq, bind_some_, bind_some_, if_neg (by simp), if_neg (by simp)]
  simp only [dt]
  by_cases h : x < y
  · rw [if_pos h, if_pos h]
  · rw [if_neg h, if_neg h]
    by_cases h2 : x > y
    · rw [if_pos h2, if_pos h2]
    · rw [if_neg h2, if_neg h2]
theorem compare_u (x y : Int) : cmp_Compare_uint64 x y = some (if x < y then -1 else if x > y then 1 else 0) := by
  rw [cmp_Compare_uint64_eq, cmp_isNaN_uint64_eq, cmp_isNaN_uint64_eq, bind_some_, bind_some_, if_neg (by simp), if_neg (by simp)]
  simp only [dt]
  by_cases h : x < y
  · rw [if_pos h, if_pos h]
  · rw [if_neg h, if_neg h]
    by_cases h2 : x > y
    · rw [if_pos h2, if_pos h2]
    · rw [if_neg h2, if_neg h2]
theorem or_two (a b : Int) : cmp_Or_int [a, b] = some (if a ≠ 0 then a else b) := by
  rw [cmp_Or_int_eq, cmp_Or_int.p3_eq, if_pos (by simp), if_pos (by decide), if_pos (by simp)]
  show (if (a != 0) = true then some a else _) = _
  simp only [ne_t]
  by_cases h : a ≠ 0
  · rw [if_pos h, if_pos h]
  · rw [if_neg h, if_neg h, show IntKind.i64.wrap (0 + 1) = 1 from by decide +kernel, cmp_Or_int.p3_eq, if_pos (by simp), if_pos (by decide), if_pos (by simp)]
    show (if (b != 0) = true then some b else _) = _
    simp only [ne_t]
    by_cases hb : b ≠ 0
    · rw [if_pos hb]
    · rw [if_neg hb, show IntKind.i64.wrap (1 + 1) = 2 from by decide +kernel, cmp_Or_int.p3_eq, if_neg (by simp)]
      congr 1
      omega
theorem or_errs (a b : Int) : cmp_Or_api_Errno [a, b] = some (if a ≠ 0 then a else b) := by
  rw [cmp_Or_api_Errno_eq, cmp_Or_api_Errno.p3_eq, if_pos (by simp), if_pos (by decide), if_pos (by simp)]
  show (if (a != 0) = true then some a else _) = _
  simp only [ne_t]
  by_cases h : a ≠ 0
  · rw [if_pos h, if_pos h]
  · rw [if_neg h, if_neg h, show IntKind.i64.wrap (0 + 1) = 1 from by decide +kernel, cmp_Or_api_Errno.p3_eq, if_pos (by simp), if_pos (by decide), if_pos (by simp)]
    show (if (b != 0) = true then some b else _) = _
    simp only [ne_t]
    by_cases hb : b ≠ 0
    · rw [if_pos hb]
    · rw [if_neg hb, show IntKind.i64.wrap (1 + 1) = 2 from by decide +kernel, cmp_Or_api_Errno.p3_eq, if_neg (by simp)]
      congr 1
      omega
theorem wideCmp (a b : Int) (ha : 0 ≤ a) (hb : 0 ≤ b) : num_Wide_Cmp (a / 18446744073709551616, a % 18446744073709551616) (b / 18446744073709551616, b % 18446744073709551616) = some (if a < b then -1 else if a > b then 1 else 0) := by
  rw [num_Wide_Cmp_eq, compare_i, compare_u, bind_some_, bind_some_, or_two, bind_some_]
  congr 1
  simp only
  split <;> split <;> (try split) <;> (try split) <;> (try split) <;> (try split) <;> omega
theorem frac_1 : frac_Check (1, 1) = some 0 := callL_some.2 ⟨200, by kernel_rfl⟩
theorem frac_100 : frac_Check (100, 1) = some 0 := callL_some.2 ⟨200, by kernel_rfl⟩
theorem fracCmp {n d k : Int} (hc : frac_Check (n, d) = some 0) (hn : 1 ≤ n) (hk : frac_Check (k, 1) = some 0) (k0 : 1 ≤ k) : frac_Cmp (n, d) (k, 1) = some (if n < k * d then -1 else if n > k * d then 1 else 0) := by
  have h := fracCheck_ok hc
  have hh := fracCheck_ok hk
  simp only at h hh
  rw [frac_Cmp_eq, frac_both_eq, hc, hk, bind_some_, bind_some_, or_errs, bind_some_, bind_some_, if_neg (by simp)]
  simp only
  rw [product_in (by omega) (by omega) (by omega) (by omega), product_in (by omega) (by omega) (by omega) (by omega), bind_some_, bind_some_, Int.mul_one, wideCmp _ _ (by omega) (Int.mul_nonneg (by omega) (by omega)), bind_some_]
theorem spin_eq (r : Int × Int × Int × Int) : prop_CheckSpin r = spyref2_SpinFault r := by
  rw [prop_CheckSpin_eq, spyref2_SpinFault_eq]
  obtain ⟨e, he⟩ := rate_def r
  rw [he, bind_some_, bind_some_]
  simp only [ne_t, dt, df]
  by_cases h0 : e ≠ 0
  · rw [if_pos h0, if_pos h0]
  · rw [if_neg h0, if_neg h0]
    have : e = 0 := Classical.byContradiction h0
    subst this
    obtain ⟨hc, hn, _⟩ := rate_ok he
    obtain ⟨a, b, n, d⟩ := r
    simp only at hc hn ⊢
    have hb := fracCheck_ok hc
    simp only at hb
    rw [fracCmp hc hn frac_1 (by omega), fracCmp hc hn frac_100 (by omega), bind_some_, bind_some_, Int.one_mul]
    rw [wi (x := n - 1) (by omega) (by omega)]
    rw [Int.tdiv_eq_ediv_of_nonneg (by omega), wi (x := (n - 1) / 100) (by omega) (by omega)]
    have c1 : ((if n < d then (-1 : Int) else if n > d then 1 else 0) < 0) ↔ n < d := by
      split
      · omega
      · split <;> omega
    have c2 : ((if n < 100 * d then (-1 : Int) else if n > 100 * d then 1 else 0) > 0) ↔ n > 100 * d := by
      split
      · omega
      · split <;> omega
    have c3 : ((n - 1) / 100 ≥ d) ↔ n > 100 * d := by omega
    simp only [c1, c2, c3]
theorem spin_def (r : Int × Int × Int × Int) : Def (spyref2_SpinFault r) := by
  rw [spyref2_SpinFault_eq]
  refine (rate_def r).bind fun _ _ => ?_
  repeat' (refine Def.ite (fun _ => ?_) (fun _ => ?_))
  all_goals exact .mk _
theorem spin_ok {r : Int × Int × Int × Int} (h : spyref2_SpinFault r = some 0) : scale_CheckRate r = some 0 := by
  rw [spyref2_SpinFault_eq] at h
  obtain ⟨e, he⟩ := rate_def r
  rw [he, bind_some_] at h
  by_cases h0 : e = 0
  · rw [he, h0]
  · rw [if_pos (by rw [ne_t]; exact h0)] at h
    cases h
    exact absurd rfl h0
theorem clouds_eq (l : List Int) : ∀ (u : Nat) (i : Nat), l.length < 9223372036854775807 → l.length - i = u → i ≤ l.length → prop_CheckNight.p17 l l.length i = spyref2_NightFault.p17 l l.length i ∧ Def (spyref2_NightFault.p17 l l.length i) := by
  intro u
  induction u with
  | zero =>
    intro i hl hu hi
    rw [prop_CheckNight.p17_eq, spyref2_NightFault.p17_eq, if_neg (by rw [dt]; omega), if_neg (by rw [dt]; omega)]
    exact ⟨rfl, .mk _⟩
  | succ u ih =>
    intro i hl hu hi
    obtain ⟨h1, h2⟩ := ih (i + 1) hl (by omega) (by omega)
    have q1 : decide ((i : Int) < (l.length : Int)) = true := by rw [dt]; omega
    have q2 : (0 : Int) ≤ (i : Int) := by omega
    have q3 : (i : Int) < (l.length : Int) := by omega
    have e1 : prop_CheckNight.p17 l l.length i = if (!decide (0 ≤ l.getD (i : Int).toNat 0 ∧ l.getD (i : Int).toNat 0 ≤ 4)) = true then some 4 else prop_CheckNight.p17 l l.length ((i + 1 : Nat) : Int) := by
      rw [prop_CheckNight.p17_eq, if_pos q1, if_pos q2, if_pos q3, within_in, in_val, bind_some_, wi_nat (by omega)]
    have e2 : spyref2_NightFault.p17 l l.length i = if (!decide (0 ≤ l.getD (i : Int).toNat 0 ∧ l.getD (i : Int).toNat 0 ≤ 4)) = true then some 4 else spyref2_NightFault.p17 l l.length ((i + 1 : Nat) : Int) := by
      rw [spyref2_NightFault.p17_eq, if_pos q1, if_pos q2, if_pos q3, in_val, bind_some_, wi_nat (by omega)]
    rw [e1, e2, h1]
    exact ⟨rfl, Def.ite (fun _ => .mk _) (fun _ => h2)⟩
abbrev Night : Type := (Int × Int) × (Int × Int × Int × Int) × Int × Int × Int × (Int × Int × Int) × (Int × Int × Int) × Int × List Int
theorem night_eq (n : Night) : prop_CheckNight n = spyref2_NightFault n ∧ Def (spyref2_NightFault n) := by
  rw [prop_CheckNight_eq, spyref2_NightFault_eq, within_in, in_val, bind_some_, bind_some_, spin_eq]
  obtain ⟨e1, s1, d1⟩ := dir_check n.2.2.2.2.2.1
  obtain ⟨e2, s2, d2⟩ := dir_check n.2.2.2.2.2.2.1
  obtain ⟨e, he⟩ := spin_def n.2.1
  rw [s1, s2, d1, d2, he, bind_some_, bind_some_, bind_some_, bind_some_, bind_some_, bind_some_]
  have hc := fun (h0 : 1 ≤ n.2.2.2.2.1 ∧ n.2.2.2.2.1 ≤ 64) (q : (n.2.2.2.2.2.2.2.2.length : Int) = n.2.2.2.2.1) => clouds_eq n.2.2.2.2.2.2.2.2 _ 0 (by omega) rfl (by omega)
  have hg : ∀ (x y x' y' : Option Int) (c c' : Prop) [Decidable c] [Decidable c'], (c ↔ c') → (c → x = x' ∧ Def x') → (¬ c → y = y' ∧ Def y') → (if c then x else y) = (if c' then x' else y') ∧ Def (if c' then x' else y') := by
    intro x y x' y' c c' _ _ hcc h1 h2
    by_cases h : c
    · rw [if_pos h, if_pos (hcc.1 h)]; exact h1 h
    · rw [if_neg h, if_neg (fun q => h (hcc.2 q))]; exact h2 h
  have four : ∀ a : Int, (some a : Option Int) = some a ∧ Def (some a) := fun a => ⟨rfl, .mk _⟩
  refine hg _ _ _ _ _ _ Iff.rfl (fun h0 => ?_) (fun _ => four _)
  have h0' : 1 ≤ n.2.2.2.2.1 ∧ n.2.2.2.2.1 ≤ 64 := by rw [not_f, dt] at h0; exact h0
  refine hg _ _ _ _ _ _ Iff.rfl (fun _ => ?_) (fun _ => four _)
  refine hg _ _ _ _ _ _ Iff.rfl (fun _ => four _) (fun _ => ?_)
  refine hg _ _ _ _ _ _ Iff.rfl (fun _ => ?_) (fun _ => four _)
  refine hg _ _ _ _ _ _ Iff.rfl (fun _ => four _) (fun _ => ?_)
  refine hg _ _ _ _ _ _ Iff.rfl (fun _ => ?_) (fun _ => four _)
  refine hg _ _ _ _ _ _ Iff.rfl (fun _ => ?_) (fun _ => four _)
  refine hg _ _ _ _ _ _ Iff.rfl (fun _ => ?_) (fun _ => four _)
  refine hg _ _ _ _ _ _ (by rw [dt, dt]; constructor <;> intro q <;> omega) (fun _ => four _) (fun _ => ?_)
  refine hg _ _ _ _ _ _ Iff.rfl (fun _ => four _) (fun _ => ?_)
  refine hg _ _ _ _ _ _ (by simp) (fun _ => ?_) (fun _ => four _)
  refine hg _ _ _ _ _ _ (by simp) (fun _ => four _) (fun _ => ?_)
  refine hg _ _ _ _ _ _ Iff.rfl (fun _ => ?_) (fun _ => four _)
  refine hg _ _ _ _ _ _ Iff.rfl (fun _ => four _) (fun _ => ?_)
  refine hg _ _ _ _ _ _ Iff.rfl (fun _ => four _) (fun hq => ?_)
  exact hc h0' (by rw [ne_t] at hq; omega)
structure NightOk (n : Night) : Prop where
  slots : 1 ≤ n.2.2.2.2.1 ∧ n.2.2.2.2.1 ≤ 64
  long : 60000 ≤ n.2.2.2.1 ∧ n.2.2.2.1 ≤ 1800000
  begin : -8796093022208 ≤ n.2.2.1 ∧ n.2.2.1 ≤ 8796093022208
  lat : -1073741824 ≤ n.1.1 ∧ n.1.1 ≤ 1073741824
  lon : 0 ≤ n.1.2 ∧ n.1.2 ≤ 4294967295
  rate : scale_CheckRate n.2.1 = some 0
  cloud : (n.2.2.2.2.2.2.2.2.length : Int) = n.2.2.2.2.1
theorem ite_some {c : Prop} [Decidable c] {a b : Option Int} (h : (if c then a else b) = some 0) : (c ∧ a = some 0) ∨ (¬ c ∧ b = some 0) := by
  by_cases q : c
  · rw [if_pos q] at h; exact .inl ⟨q, h⟩
  · rw [if_neg q] at h; exact .inr ⟨q, h⟩
theorem ite_0 {c : Prop} [Decidable c] {a : Option Int} {k : Int} (hk : k ≠ 0) (h : (if c then a else some k) = some 0) : c ∧ a = some 0 := (ite_some h).resolve_right fun q => hk (Option.some.inj q.2)
theorem ite_1 {c : Prop} [Decidable c] {a : Option Int} {k : Int} (hk : k ≠ 0) (h : (if c then some k else a) = some 0) : ¬ c ∧ a = some 0 := (ite_some h).resolve_left fun q => hk (Option.some.inj q.2)
theorem ite_e {e : Int} {a : Option Int} (h : (if (e != 0) = true then some e else a) = some 0) : e = 0 ∧ a = some 0 := by
  rcases ite_some h with ⟨q1, q2⟩ | ⟨q1, q2⟩
  · cases q2; simp at q1
  · exact ⟨by simpa using q1, q2⟩
theorem night_ok {n : Night} (h : spyref2_NightFault n = some 0) : NightOk n := by
  rw [spyref2_NightFault_eq, in_val, bind_some_] at h
  obtain ⟨e1, s1, d1⟩ := dir_check n.2.2.2.2.2.1
  obtain ⟨e2, s2, d2⟩ := dir_check n.2.2.2.2.2.2.1
  obtain ⟨e, he⟩ := spin_def n.2.1
  rw [d1, d2, he, bind_some_, bind_some_, bind_some_] at h
  obtain ⟨a1, h⟩ := ite_0 (by omega) h
  obtain ⟨a2, h⟩ := ite_0 (by omega) h
  obtain ⟨a3, h⟩ := ite_1 (by omega) h
  obtain ⟨a4, h⟩ := ite_0 (by omega) h
  obtain ⟨a5, h⟩ := ite_1 (by omega) h
  obtain ⟨a6, h⟩ := ite_0 (by omega) h
  obtain ⟨a7, h⟩ := ite_0 (by omega) h
  obtain ⟨a8, h⟩ := ite_0 (by omega) h
  obtain ⟨a9, h⟩ := ite_1 (by omega) h
  obtain ⟨b1, h⟩ := ite_e h
  obtain ⟨_, h⟩ := ite_0 (by omega) h
  obtain ⟨_, h⟩ := ite_1 (by omega) h
  obtain ⟨_, h⟩ := ite_0 (by omega) h
  obtain ⟨_, h⟩ := ite_1 (by omega) h
  obtain ⟨b2, h⟩ := ite_1 (by omega) h
  subst b1
  simp only [not_f, dt, df, ne_t] at a1 a2 a3 a4 a5 a6 a7 a8 a9 b2
  exact ⟨a1, by omega, by omega, by omega, by omega, spin_ok he, by omega⟩

end Go.Proofs.YtionphbdphbpnaaGreat.Pure
