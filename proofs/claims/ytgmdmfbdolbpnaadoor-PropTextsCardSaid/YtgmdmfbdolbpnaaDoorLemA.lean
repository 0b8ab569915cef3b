/- Numbers, nights, requests, programmes. -/
import Derived.Test.YtgmdmfbdolbpnaaDoorEA0
import Derived.Test.YtgmdmfbdolbpnaaDoorEA1
import Derived.Test.YtgmdmfbdolbpnaaDoorPl
namespace Go.Proofs.YtgmdmfbdolbpnaaDoor.Pure
set_option linter.unusedVariables false
set_option linter.unusedSimpArgs false
open Go Go.RowKit Go.Proofs.YtgmdmfbdolbpnaaDoor.Pv Go.Proofs.YtgmdmfbdolbpnaaDoor.Pl Go.Proofs.YtgmdmfbdolbpnaaDoor.EA

/-! Whole numbers: what is defined, for every argument. -/
def Def {α : Type} (o : Option α) : Prop := ∃ r, o = some r
theorem Def.mk {α : Type} (a : α) : Def (some a) := ⟨a, rfl⟩
theorem Def.bind {α β : Type} {x : Option α} {f : α → Option β} (h : Def x) (k : ∀ r, x = some r → Def (f r)) : Def (x.bind f) := by
  obtain ⟨r, h⟩ := h
  rw [h]
  exact k r h
theorem Def.ite {α : Type} {c : Prop} [Decidable c] {a b : Option α} (h1 : c → Def a) (h2 : ¬ c → Def b) : Def (if c then a else b) := by
  by_cases h : c
  · rw [if_pos h]; exact h1 h
  · rw [if_neg h]; exact h2 h
theorem Def.no {α : Type} {c : Prop} [Decidable c] {b : Option α} (h1 : ¬ c) (h2 : Def b) : Def (if c then none else b) := by rw [if_neg h1]; exact h2
theorem Def.yes {α : Type} {c : Prop} [Decidable c] {a : Option α} (h1 : c) (h2 : Def a) : Def (if c then a else none) := by rw [if_pos h1]; exact h2
theorem wu (x : Int) : IntKind.u64.wrap x = x % 18446744073709551616 := by
  simp [IntKind.wrap, IntKind.bits, IntKind.signed]
theorem wu_in {x : Int} (h0 : 0 ≤ x) (h1 : x < 18446744073709551616) : IntKind.u64.wrap x = x := IntWalk.u64_in x ⟨h0, by omega⟩
theorem wu_pos (x : Int) : 0 ≤ IntKind.u64.wrap x ∧ IntKind.u64.wrap x < 18446744073709551616 := by rw [wu]; omega
theorem wi_pos (x : Int) : -9223372036854775808 ≤ IntKind.i64.wrap x ∧ IntKind.i64.wrap x ≤ 9223372036854775807 := by rw [IntKind.wrap_i64]; omega
theorem and32 (x : Int) : bitop .and .u64 x 4294967295 = x % 4294967296 := by
  show ((BitVec.ofInt 64 x &&& BitVec.ofInt 64 4294967295).toNat : Int) = _
  rw [BitVec.toNat_and, BitVec.toNat_ofInt, BitVec.toNat_ofInt]
  have e : ((4294967295 : Int) % ((2 ^ 64 : Nat) : Int)).toNat = 2 ^ 32 - 1 := by decide
  rw [e, Nat.and_two_pow_sub_one_eq_mod]
  omega
theorem or_lt {x y : Int} : 0 ≤ bitop .or .u64 x y ∧ bitop .or .u64 x y < 18446744073709551616 := by
  unfold bitop
  have := (BitVec.ofInt IntKind.u64.bits x ||| BitVec.ofInt IntKind.u64.bits y).isLt
  simp only [IntKind.bits] at this ⊢
  omega
theorem len_tab : ∀ k : Nat, k < 256 → k ≠ 0 → ∃ n : Nat, ((bytesOf (ByteArray.mk #[0, 1, 2, 2, 3, 3, 3, 3, 4, 4, 4, 4, 4, 4, 4, 4, 5, 5, 5, 5, 5, 5, 5, 5, 5, 5, 5, 5, 5, 5, 5, 5, 6, 6, 6, 6, 6, 6, 6, 6, 6, 6, 6, 6, 6, 6, 6, 6, 6, 6, 6, 6, 6, 6, 6, 6, 6, 6, 6, 6, 6, 6, 6, 6, 7, 7, 7, 7, 7, 7, 7, 7, 7, 7, 7, 7, 7, 7, 7, 7, 7, 7, 7, 7, 7, 7, 7, 7, 7, 7, 7, 7, 7, 7, 7, 7, 7, 7, 7, 7, 7, 7, 7, 7, 7, 7, 7, 7, 7, 7, 7, 7, 7, 7, 7, 7, 7, 7, 7, 7, 7, 7, 7, 7, 7, 7, 7, 7, 8, 8, 8, 8, 8, 8, 8, 8, 8, 8, 8, 8, 8, 8, 8, 8, 8, 8, 8, 8, 8, 8, 8, 8, 8, 8, 8, 8, 8, 8, 8, 8, 8, 8, 8, 8, 8, 8, 8, 8, 8, 8, 8, 8, 8, 8, 8, 8, 8, 8, 8, 8, 8, 8, 8, 8, 8, 8, 8, 8, 8, 8, 8, 8, 8, 8, 8, 8, 8, 8, 8, 8, 8, 8, 8, 8, 8, 8, 8, 8, 8, 8, 8, 8, 8, 8, 8, 8, 8, 8, 8, 8, 8, 8, 8, 8, 8, 8, 8, 8, 8, 8, 8, 8, 8, 8, 8, 8, 8, 8, 8, 8, 8, 8, 8, 8, 8, 8, 8, 8, 8, 8, 8, 8, 8, 8, 8, 8])).getD k 0) = ((n + 1 : Nat) : Int) ∧ n < 8 ∧ 2 ^ n ≤ k ∧ k < 2 ^ (n + 1) := by
  have h : ∀ k : Fin 256, k.val = 0 ∨ (let t := ((bytesOf (ByteArray.mk #[0, 1, 2, 2, 3, 3, 3, 3, 4, 4, 4, 4, 4, 4, 4, 4, 5, 5, 5, 5, 5, 5, 5, 5, 5, 5, 5, 5, 5, 5, 5, 5, 6, 6, 6, 6, 6, 6, 6, 6, 6, 6, 6, 6, 6, 6, 6, 6, 6, 6, 6, 6, 6, 6, 6, 6, 6, 6, 6, 6, 6, 6, 6, 6, 7, 7, 7, 7, 7, 7, 7, 7, 7, 7, 7, 7, 7, 7, 7, 7, 7, 7, 7, 7, 7, 7, 7, 7, 7, 7, 7, 7, 7, 7, 7, 7, 7, 7, 7, 7, 7, 7, 7, 7, 7, 7, 7, 7, 7, 7, 7, 7, 7, 7, 7, 7, 7, 7, 7, 7, 7, 7, 7, 7, 7, 7, 7, 7, 8, 8, 8, 8, 8, 8, 8, 8, 8, 8, 8, 8, 8, 8, 8, 8, 8, 8, 8, 8, 8, 8, 8, 8, 8, 8, 8, 8, 8, 8, 8, 8, 8, 8, 8, 8, 8, 8, 8, 8, 8, 8, 8, 8, 8, 8, 8, 8, 8, 8, 8, 8, 8, 8, 8, 8, 8, 8, 8, 8, 8, 8, 8, 8, 8, 8, 8, 8, 8, 8, 8, 8, 8, 8, 8, 8, 8, 8, 8, 8, 8, 8, 8, 8, 8, 8, 8, 8, 8, 8, 8, 8, 8, 8, 8, 8, 8, 8, 8, 8, 8, 8, 8, 8, 8, 8, 8, 8, 8, 8, 8, 8, 8, 8, 8, 8, 8, 8, 8, 8, 8, 8, 8, 8, 8, 8, 8, 8])).getD k.val 0); t = ((t.toNat - 1 + 1 : Nat) : Int) ∧ t.toNat - 1 < 8 ∧ 2 ^ (t.toNat - 1) ≤ k.val ∧ k.val < 2 ^ (t.toNat - 1 + 1)) := by decide +kernel
  intro k hk h0
  rcases h ⟨k, hk⟩ with q | q
  · exact absurd q h0
  · exact ⟨_, q⟩
/-! Nights: the program's check is the reference's. -/
theorem sphereCheck_def (v : Int × Int × Int) : Def (sphere_Check v) := by
  rw [sphere_Check_eq]
  repeat' (refine Def.ite (fun _ => ?_) (fun _ => ?_))
  all_goals exact .mk _
theorem sphereCheck_val {v : Int × Int × Int} {e : Int} (h : sphere_Check v = some e) : (e = 0 ↔ ((-1048576 ≤ v.1 ∧ v.1 ≤ 1048576) ∧ (-1048576 ≤ v.2.1 ∧ v.2.1 ≤ 1048576) ∧ (-1048576 ≤ v.2.2 ∧ v.2.2 ≤ 1048576) ∧ ¬ (v.1 = 0 ∧ v.2.1 = 0 ∧ v.2.2 = 0))) := by
  obtain ⟨x, y, z⟩ := v
  rw [sphere_Check_eq] at h
  simp only [dt, df, Bool.and_eq_true, eq_t] at h ⊢
  have hM : ((if (if x < y then y else x) < z then z else (if x < y then y else x)) > 1048576) ↔ (x > 1048576 ∨ y > 1048576 ∨ z > 1048576) := by
    by_cases h1 : x < y
    · simp only [if_pos h1]
      split <;> omega
    · simp only [if_neg h1]
      split <;> omega
  have hm : ((if z < (if y < x then y else x) then z else (if y < x then y else x)) < (-1048576)) ↔ (x < -1048576 ∨ y < -1048576 ∨ z < -1048576) := by
    by_cases h1 : y < x
    · simp only [if_pos h1]
      split <;> omega
    · simp only [if_neg h1]
      split <;> omega
  simp only [hM, hm] at h
  by_cases h1 : x > 1048576 ∨ y > 1048576 ∨ z > 1048576
  · rw [if_neg (fun q => q h1)] at h
    cases h
    constructor
    · intro q; cases q
    · intro q; omega
  · rw [if_pos h1] at h
    by_cases h2 : x < -1048576 ∨ y < -1048576 ∨ z < -1048576
    · rw [if_pos h2] at h
      cases h
      constructor
      · intro q; cases q
      · intro q; omega
    · rw [if_neg h2] at h
      by_cases h3 : x = 0 ∧ y = 0 ∧ z = 0
      · rw [if_pos h3] at h
        cases h
        constructor
        · intro q; cases q
        · intro q; exact absurd h3 q.2.2.2
      · rw [if_neg h3] at h
        cases h
        exact ⟨fun _ => ⟨by omega, by omega, by omega, h3⟩, fun _ => rfl⟩
theorem dir_val (v : Int × Int × Int) : spyref2_DirOK v = some (decide ((-1048576 ≤ v.1 ∧ v.1 ≤ 1048576) ∧ (-1048576 ≤ v.2.1 ∧ v.2.1 ≤ 1048576) ∧ (-1048576 ≤ v.2.2 ∧ v.2.2 ≤ 1048576) ∧ ¬ (v.1 = 0 ∧ v.2.1 = 0 ∧ v.2.2 = 0))) := by
  obtain ⟨x, y, z⟩ := v
  rw [spyref2_DirOK_eq]
  rw [spyref2_DirOK.p2_eq, if_pos (by decide), if_pos (by decide), if_pos (by decide)]
  show (if (decide (x < (-1048576))) = false then _ else _) = _
  simp only [df, dt]
  by_cases hx : -1048576 ≤ x ∧ x ≤ 1048576
  · rw [if_pos (by omega), if_neg (by show ¬ x > 1048576; omega)]
    rw [show IntKind.i64.wrap (0 + 1) = 1 from by decide +kernel]
    rw [spyref2_DirOK.p2_eq, if_pos (by decide), if_pos (by decide), if_pos (by decide)]
    show (if (decide (y < (-1048576))) = false then _ else _) = _
    simp only [df, dt]
    by_cases hy : -1048576 ≤ y ∧ y ≤ 1048576
    · rw [if_pos (by omega), if_neg (by show ¬ y > 1048576; omega)]
      rw [show IntKind.i64.wrap (1 + 1) = 2 from by decide +kernel]
      rw [spyref2_DirOK.p2_eq, if_pos (by decide), if_pos (by decide), if_pos (by decide)]
      show (if (decide (z < (-1048576))) = false then _ else _) = _
      simp only [df, dt]
      by_cases hz : -1048576 ≤ z ∧ z ≤ 1048576
      · rw [if_pos (by omega), if_neg (by show ¬ z > 1048576; omega)]
        rw [show IntKind.i64.wrap (2 + 1) = 3 from by decide +kernel]
        rw [spyref2_DirOK.p2_eq, if_neg (by decide)]
        congr 1
        rw [Bool.eq_iff_iff]
        simp [hx, hy, hz]
      · have : ¬ ((-1048576 ≤ x ∧ x ≤ 1048576) ∧ (-1048576 ≤ y ∧ y ≤ 1048576) ∧ (-1048576 ≤ z ∧ z ≤ 1048576) ∧ ¬ (x = 0 ∧ y = 0 ∧ z = 0)) := fun q => hz q.2.2.1
        rw [decide_eq_false this]
        refine ite_eq (fun _ => ?_) (fun _ => rfl)
        rw [if_pos (by show z > 1048576; omega)]
    · have : ¬ ((-1048576 ≤ x ∧ x ≤ 1048576) ∧ (-1048576 ≤ y ∧ y ≤ 1048576) ∧ (-1048576 ≤ z ∧ z ≤ 1048576) ∧ ¬ (x = 0 ∧ y = 0 ∧ z = 0)) := fun q => hy q.2.1
      rw [decide_eq_false this]
      refine ite_eq (fun _ => ?_) (fun _ => rfl)
      rw [if_pos (by show y > 1048576; omega)]
  · have : ¬ ((-1048576 ≤ x ∧ x ≤ 1048576) ∧ (-1048576 ≤ y ∧ y ≤ 1048576) ∧ (-1048576 ≤ z ∧ z ≤ 1048576) ∧ ¬ (x = 0 ∧ y = 0 ∧ z = 0)) := fun q => hx q.1
    rw [decide_eq_false this]
    refine ite_eq (fun _ => ?_) (fun _ => rfl)
    rw [if_pos (by show x > 1048576; omega)]
theorem dir_check (v : Int × Int × Int) : ∃ e, sphere_Check v = some e ∧ spyref2_DirOK v = some (decide (e = 0)) := by
  obtain ⟨e, he⟩ := sphereCheck_def v
  refine ⟨e, he, ?_⟩
  rw [dir_val]
  congr 1
  rw [decide_eq_decide]
  exact (sphereCheck_val he).symm
theorem within_in (n a b : Int) : prop_within n a b = spyref2_In n a b := by rw [prop_within_eq, spyref2_In_eq]
theorem in_val (n a b : Int) : spyref2_In n a b = some (decide (a ≤ n ∧ n ≤ b)) := by
  rw [spyref2_In_eq]
  simp only [dt]
  by_cases h : a ≤ n
  · rw [if_pos h]
    simp [h]
  · rw [if_neg h]
    simp [h]
/-! Comparison of fractions. -/
abbrev Night : Type := (Int × Int) × (Int × Int × Int × Int) × Int × Int × Int × (Int × Int × Int) × (Int × Int × Int) × Int × List Int
theorem ite_some {c : Prop} [Decidable c] {a b : Option Int} (h : (if c then a else b) = some 0) : (c ∧ a = some 0) ∨ (¬ c ∧ b = some 0) := by
  by_cases q : c
  · rw [if_pos q] at h; exact .inl ⟨q, h⟩
  · rw [if_neg q] at h; exact .inr ⟨q, h⟩
theorem ite_0 {c : Prop} [Decidable c] {a : Option Int} {k : Int} (hk : k ≠ 0) (h : (if c then a else some k) = some 0) : c ∧ a = some 0 := (ite_some h).resolve_right fun q => hk (Option.some.inj q.2)
theorem ite_1 {c : Prop} [Decidable c] {a : Option Int} {k : Int} (hk : k ≠ 0) (h : (if c then some k else a) = some 0) : ¬ c ∧ a = some 0 := (ite_some h).resolve_left fun q => hk (Option.some.inj q.2)
theorem ite_e {e : Int} {a : Option Int} (h : (if (e != 0) = true then some e else a) = some 0) : e = 0 ∧ a = some 0 := by
  rcases ite_some h with ⟨q1, q2⟩ | ⟨q1, q2⟩
  · cases q2; simp at q1
  · exact ⟨by simpa using q1, q2⟩
/-! Two computations with one answer. -/
def Same {α : Type} (p : α → Prop) (x y : Option α) : Prop := ∃ r, x = some r ∧ y = some r ∧ p r
theorem Same.mk {α : Type} {p : α → Prop} (a : α) (h : p a) : Same p (some a) (some a) := ⟨a, rfl, rfl, h⟩
theorem Same.ite {α : Type} {p : α → Prop} {c c' : Prop} [Decidable c] [Decidable c'] {a b a' b' : Option α} (h : c ↔ c') (h1 : c → Same p a a') (h2 : ¬ c → Same p b b') : Same p (if c then a else b) (if c' then a' else b') := by
  by_cases q : c
  · rw [if_pos q, if_pos (h.1 q)]; exact h1 q
  · rw [if_neg q, if_neg (fun k => q (h.2 k))]; exact h2 q
theorem Same.bind {α β : Type} {p : α → Prop} {q : β → Prop} {x y : Option β} {f g : β → Option α} (h : Same q x y) (k : ∀ r, q r → Same p (f r) (g r)) : Same p (x.bind f) (y.bind g) := by
  obtain ⟨r, h1, h2, h3⟩ := h
  rw [h1, h2]
  exact k r h3
theorem Same.of {α : Type} {p : α → Prop} {x y : Option α} (h1 : x = y) (h2 : ∃ r, y = some r ∧ p r) : Same p x y := by
  obtain ⟨r, h2, h3⟩ := h2
  exact ⟨r, h1.trans h2, h2, h3⟩
theorem Same.imp {α : Type} {p q : α → Prop} {x y : Option α} (h : Same p x y) (k : ∀ r, p r → q r) : Same q x y := by
  obtain ⟨r, h1, h2, h3⟩ := h
  exact ⟨r, h1, h2, k r h3⟩
/-- One more test on one side. -/
theorem Same.left {α : Type} {p : α → Prop} {c : Prop} [Decidable c] {a b y : Option α} (h1 : c → Same p a y) (h2 : ¬ c → Same p b y) : Same p (if c then a else b) y := by
  by_cases q : c
  · rw [if_pos q]; exact h1 q
  · rw [if_neg q]; exact h2 q
theorem Same.right {α : Type} {p : α → Prop} {c : Prop} [Decidable c] {a b x : Option α} (h1 : c → Same p x a) (h2 : ¬ c → Same p x b) : Same p x (if c then a else b) := by
  by_cases q : c
  · rw [if_pos q]; exact h1 q
  · rw [if_neg q]; exact h2 q
theorem Same.law {α : Type} {p : α → Prop} {x y : Option α} {f : α → α → Bool} (h : Same p x y) (hf : ∀ r, p r → f r r = true) : (x.bind fun a => y.bind fun b => some (f a b)) = some true := by
  obtain ⟨r, h1, h2, h3⟩ := h
  rw [h1, h2]
  show some (f r r) = some true
  rw [hf r h3]
abbrev Req : Type := Int × Int × (Int × Int × Int) × Int × Int × Int × Int × Int × Int × Int × Int
/-! Requests. -/
theorem request_same (r : Req) : Same (fun _ => True) (prop_CheckRequest r) (spyref2_RequestFault r) := by
  have p12 : Same (fun _ => True) (prop_CheckRequest.p12 r) (spyref2_RequestFault.p11 r) := by
    rw [prop_CheckRequest.p12_eq, spyref2_RequestFault.p11_eq]
    simp only [within_in, in_val, bind_some_]
    repeat' (refine Same.ite Iff.rfl (fun _ => ?_) (fun _ => ?_))
    all_goals exact .mk _ trivial
  obtain ⟨e, s1, d1⟩ := dir_check r.2.2.1
  rw [prop_CheckRequest_eq, spyref2_RequestFault_eq, s1, d1]
  simp only [within_in, in_val, bind_some_]
  refine .ite Iff.rfl (fun _ => .mk _ trivial) (fun _ => .ite (by simp) (fun _ => .mk _ trivial) (fun _ => .ite Iff.rfl (fun _ => .ite Iff.rfl (fun _ => .mk _ trivial) (fun hv => ?_)) (fun _ => .mk _ trivial)))
  rw [not_t, df] at hv
  have hv' : 1 ≤ r.2.2.2.2.1 ∧ r.2.2.2.2.1 ≤ 4 := Classical.byContradiction hv
  refine .ite Iff.rfl (fun h1 => .ite Iff.rfl (fun _ => .ite Iff.rfl (fun _ => .mk _ trivial) (fun _ => ?_)) (fun _ => .mk _ trivial)) (fun h1 => ?_)
  · rw [eq_t] at h1
    rw [spyref2_RequestFault.p9_eq]
    exact .right (fun q => by rw [dt] at q; omega) (fun _ => p12)
  · rw [eq_t] at h1
    rw [spyref2_RequestFault.p9_eq]
    simp only [in_val, bind_some_]
    refine .right (fun _ => ?_) (fun q => by rw [dt] at q; omega)
    exact .ite Iff.rfl (fun _ => .ite Iff.rfl (fun _ => .mk _ trivial) (fun _ => p12)) (fun _ => .mk _ trivial)
theorem request_len {r : Req} (h : spyref2_RequestFault r = some 0) : 1 ≤ r.2.2.2.1 ∧ r.2.2.2.1 ≤ 8 ∧ 1 ≤ r.2.2.2.2.1 ∧ r.2.2.2.2.1 ≤ 4 := by
  obtain ⟨e, s1, d1⟩ := dir_check r.2.2.1
  rw [spyref2_RequestFault_eq, in_val, in_val, in_val, d1] at h
  simp only [bind_some_] at h
  obtain ⟨_, h⟩ := ite_1 (by omega) h
  obtain ⟨_, h⟩ := ite_1 (by omega) h
  obtain ⟨h1, h⟩ := ite_0 (by omega) h
  obtain ⟨h2, h⟩ := ite_1 (by omega) h
  rw [not_f, dt] at h1
  rw [not_t, df] at h2
  have : 1 ≤ r.2.2.2.2.1 ∧ r.2.2.2.2.1 ≤ 4 := Classical.byContradiction h2
  exact ⟨h1.1, h1.2, this⟩
/-! Programmes: the program's check is the reference's. -/
abbrev Progr : Type := List (ByteArray × Int) × List Req
theorem keyI {a b : Int} : keyEq (.int .i64) a b = true ↔ a = b := by rw [keyEq]; simp
theorem toList_inj {a b : ByteArray} : (a.toList == b.toList) = true ↔ a = b := by
  constructor
  · intro h
    have h2 : (a == b) = true := by rw [beq_toListBytes]; exact h
    have h3 : (a.data == b.data) = true := h2
    exact ByteArray.ext (by simpa using h3)
  · rintro rfl
    simp
theorem keyS {a b : ByteArray} : keyEq .str a b = true ↔ a = b := by rw [keyEq]; exact toList_inj
theorem look_upd {k v : Ty} (hk : ∀ a b : k.den, keyEq k a b = true ↔ a = b) (x : k.den) (y : v.den) (z : k.den) : ∀ l : List (k.den × v.den), (z = x → lookM k v z (updM k v x y l) = some y) ∧ (z ≠ x → lookM k v z (updM k v x y l) = lookM k v z l)
  | [] => by
    constructor
    · intro h
      rw [updM, lookM, if_pos ((hk _ _).2 h)]
    · intro h
      rw [updM]
      show (if keyEq k z x = true then some y else none) = none
      rw [if_neg (fun q => h ((hk _ _).1 q))]
  | p :: r => by
    have ih := look_upd hk x y z r
    rw [updM]
    by_cases c : keyEq k x p.1 = true
    · have e := (hk _ _).1 c
      rw [if_pos c]
      constructor
      · intro h
        rw [lookM, if_pos ((hk _ _).2 (h.trans e))]
      · intro h
        rw [lookM, lookM, if_neg (fun q => h (((hk _ _).1 q).trans e.symm)), if_neg (fun q => h (((hk _ _).1 q).trans e.symm))]
    · rw [if_neg c]
      constructor
      · intro h
        rw [lookM, if_neg (fun q => c (by rw [← h]; exact q))]
        exact ih.1 h
      · intro h
        rw [lookM, lookM]
        by_cases d : keyEq k z p.1 = true
        · rw [if_pos d, if_pos d]
        · rw [if_neg d, if_neg d]
          exact ih.2 h
/-! Names. -/
theorem name_p4 (s : ByteArray) (hs : s.size ≤ 12) : ∀ (u k : Nat), s.size - k = u → k ≤ s.size → Same (fun _ => True) (prop_Name.p4 s k) (spyref2_NameOK.p4 s k) := by
  intro u
  induction u with
  | zero =>
    intro k h hk
    rw [prop_Name.p4_eq, spyref2_NameOK.p4_eq, if_neg (by rw [dt]; omega), if_neg (by rw [dt]; omega)]
    exact .mk _ trivial
  | succ u ih =>
    intro k h hk
    have a : decide ((k : Int) < (s.size : Int)) = true := by rw [dt]; omega
    have ih' := ih (k + 1) (by omega) (by omega)
    have p8 : ∀ sm : Bool, Same (fun _ => True) (prop_Name.p8 s k ((bytesOf s).getD (k : Int).toNat 0) sm) (spyref2_NameOK.p7 s k sm) := by
      intro sm
      rw [prop_Name.p8_eq, spyref2_NameOK.p7_eq]
      simp only [spyref2_NameOK.p8_eq, if_pos (show (0 : Int) ≤ k by omega), if_pos (show (k : Int) < s.size by omega), wi_nat (show k < 9223372036854775807 by omega)]
      generalize (bytesOf s).getD (k : Int).toNat 0 = c
      cases sm with
      | true =>
        simp only [Bool.not_true, Bool.false_eq_true, if_false]
        exact .right (fun _ => .right (fun _ => ih') (fun _ => ih')) (fun _ => ih')
      | false =>
        simp only [Bool.not_false, if_true]
        by_cases k0 : k = 0
        · subst k0
          refine .left (fun q => absurd q (by decide)) (fun _ => ?_)
          repeat' (refine .right (fun _ => ?_) (fun _ => ?_))
          all_goals first | exact .mk _ trivial | (rename_i q; exact absurd q (by decide))
        · have g : decide ((k : Int) > 0) = true := by rw [dt]; omega
          refine .left (fun _ => ?_) (fun q => absurd (show ((k : Int) == 0) = false by rw [eq_f]; omega) q)
          simp only [g, Bool.not_true, Bool.false_eq_true, if_false]
          by_cases c1 : c < 48
          · rw [if_neg (show ¬ decide (c < 48) = false by rw [df]; omega), if_neg (show ¬ decide (c ≥ 48) = true by rw [dt]; omega)]
            by_cases c3 : c = 45
            · rw [if_neg (by rw [ne_t]; exact fun q => q c3), if_pos (by rw [eq_t]; exact c3)]
              exact ih'
            · rw [if_pos (by rw [ne_t]; exact c3), if_neg (by rw [eq_t]; exact c3)]
              exact .mk _ trivial
          · rw [if_pos (show decide (c < 48) = false by rw [df]; omega), if_pos (show decide (c ≥ 48) = true by rw [dt]; omega)]
            by_cases c2 : c > 57
            · rw [if_pos (show decide (c > 57) = true by rw [dt]; omega), if_pos (show decide (c ≤ 57) = false by rw [df]; omega)]
              by_cases c3 : c = 45
              · rw [if_neg (by rw [ne_t]; exact fun q => q c3), if_pos (by rw [eq_t]; exact c3)]
                exact ih'
              · rw [if_pos (by rw [ne_t]; exact c3), if_neg (by rw [eq_t]; exact c3)]
                exact .mk _ trivial
            · rw [if_neg (show ¬ decide (c > 57) = true by rw [dt]; omega), if_neg (show ¬ decide (c ≤ 57) = false by rw [df]; omega)]
              exact ih'
    rw [prop_Name.p4_eq, spyref2_NameOK.p4_eq]
    simp only [if_pos a, if_pos (show (0 : Int) ≤ k by omega), if_pos (show (k : Int) < s.size by omega)]
    exact .ite (by simp) (fun _ => p8 _) (fun _ => p8 _)
theorem name_same (s : ByteArray) : Same (fun _ => True) (prop_Name s) (spyref2_NameOK s) := by
  rw [prop_Name_eq, spyref2_NameOK_eq]
  refine .ite (by rw [eq_f, df]; omega) (fun _ => .ite Iff.rfl (fun _ => .mk _ trivial) (fun h => ?_)) (fun _ => .mk _ trivial)
  rw [dt] at h
  exact name_p4 s (by omega) _ 0 rfl (by omega)
theorem proposal_same (p : ByteArray × Int) : Same (fun _ => True) (prop_CheckProposal p) (spyref2_ProposalFault p) := by
  rw [prop_CheckProposal_eq, spyref2_ProposalFault_eq]
  refine (name_same p.1).bind fun r _ => .ite Iff.rfl (fun _ => .mk _ trivial) (fun _ => ?_)
  rw [within_in, in_val, bind_some_]
  exact .ite Iff.rfl (fun _ => .mk _ trivial) (fun _ => .mk _ trivial)
/-! Requests of a programme. -/
def OkAt (p : Progr) (j : Nat) (h : j < p.2.length) : Prop := spyref2_RequestFault p.2[j] = some 0 ∧ 0 ≤ p.2[j].2.1 ∧ p.2[j].2.1 < p.1.length ∧ p.2[j].1 ∉ (p.2.take j).map (·.1)
theorem prog_p23 (p : Progr) (t53 : List Req) (t54 t55 : Int) (x : Req) (l : List Req) (hl : l.length ≤ 16) : ∀ (u k : Nat), l.length - k = u → k ≤ l.length → spyref2_ProgrammeFault.p23 t53 t54 t55 l l.length k p x = if x.1 ∈ (l.drop k).map (·.1) then some 7 else ((spyref2_In x.2.1 0 (IntKind.i64.wrap ((p.1.length : Int) - 1))).bind fun r => if (!r) = true then (some 8) else (spyref2_ProgrammeFault.p17 t53 t54 (IntKind.i64.wrap (t55 + 1)) p)) := by
  intro u
  induction u with
  | zero =>
    intro k h hk
    rw [spyref2_ProgrammeFault.p23_eq, if_neg (by rw [dt]; omega), List.drop_eq_nil_of_le (by omega), if_neg (by simp)]
  | succ u ih =>
    intro k h hk
    have hlt : k < l.length := by omega
    rw [spyref2_ProgrammeFault.p23_eq, if_pos (by rw [dt]; omega), if_pos (by omega), if_pos (by omega), toNat_nat, getD_nat _ _ hlt, wi_nat (by omega), List.drop_eq_getElem_cons hlt, List.map_cons]
    by_cases c : x.1 = l[k].1
    · rw [if_pos (by rw [eq_t]; exact c), if_pos (List.mem_cons.2 (.inl c))]
    · rw [if_neg (by rw [eq_t]; exact c), ih (k + 1) (by omega) (by omega)]
      by_cases d : x.1 ∈ (l.drop (k + 1)).map (·.1)
      · rw [if_pos d, if_pos (List.mem_cons.2 (.inr d))]
      · rw [if_neg d, if_neg (fun q => (List.mem_cons.1 q).elim c d)]
open Classical in
theorem prog_p10 (p : Progr) (t24 : List (ByteArray × Int)) (t25 t26 : Int) (x : ByteArray × Int) (l : List (ByteArray × Int)) (hl : l.length ≤ 16) : ∀ (u k : Nat), l.length - k = u → k ≤ l.length → spyref2_ProgrammeFault.p10 t24 t25 t26 l l.length k p x = if x.1 ∈ (l.drop k).map (·.1) then some 7 else spyref2_ProgrammeFault.p4 t24 t25 (IntKind.i64.wrap (t26 + 1)) p := by
  intro u
  induction u with
  | zero =>
    intro k h hk
    rw [spyref2_ProgrammeFault.p10_eq, if_neg (by rw [dt]; omega), List.drop_eq_nil_of_le (by omega), if_neg (by simp)]
  | succ u ih =>
    intro k h hk
    have hlt : k < l.length := by omega
    rw [spyref2_ProgrammeFault.p10_eq, if_pos (by rw [dt]; omega), if_pos (by omega), if_pos (by omega), toNat_nat, getD_nat _ _ hlt, wi_nat (by omega), List.drop_eq_getElem_cons hlt, List.map_cons]
    by_cases c : x.1 = l[k].1
    · rw [if_pos (toList_inj.2 c), if_pos (List.mem_cons.2 (.inl c))]
    · rw [if_neg (fun q => c (toList_inj.1 q)), ih (k + 1) (by omega) (by omega)]
      by_cases d : x.1 ∈ (l.drop (k + 1)).map (·.1)
      · rw [if_pos d, if_pos (List.mem_cons.2 (.inr d))]
      · rw [if_neg d, if_neg (fun q => (List.mem_cons.1 q).elim c d)]
/-- What a table of marks says. -/
theorem mark_upd {k : Ty} (hk : ∀ a b : k.den, keyEq k a b = true ↔ a = b) {b : List (k.den × Bool)} {names : List k.den} (hb : ∀ x, (lookM k .bool x b).getD false = true ↔ x ∈ names) (y : k.den) : ∀ x, (lookM k .bool x (updM k .bool y true b)).getD false = true ↔ x ∈ names ++ [y] := by
  intro x
  obtain ⟨h1, h2⟩ := look_upd (v := .bool) hk y true x b
  by_cases e : x = y
  · rw [h1 e]
    simp [e]
  · rw [h2 e]
    have := hb x
    simp only [List.mem_append, List.mem_singleton, e, or_false]
    exact this
theorem take_map {α β : Type} (f : α → β) (l : List α) {k : Nat} (h : k < l.length) : (l.take (k + 1)).map f = (l.take k).map f ++ [f l[k]] := by
  rw [List.take_succ_eq_append_getElem h, List.map_append]
  rfl
theorem prog_p16 (p : Progr) (h1 : p.1.length ≤ 6) (hl : p.2.length ≤ 16) : ∀ (u k : Nat) (b : List (Int × Bool)), p.2.length - k = u → k ≤ p.2.length → (∀ x, (lookM (.int .i64) .bool x b).getD false = true ↔ x ∈ (p.2.take k).map (·.1)) → Same (fun r => r = 0 → ∀ j, k ≤ j → (h : j < p.2.length) → OkAt p j h) (prop_Check.p16 p.2 p.2.length k p b) (spyref2_ProgrammeFault.p17 p.2 p.2.length k p) := by
  intro u
  induction u with
  | zero =>
    intro k b hu hk hb
    rw [prop_Check.p16_eq, spyref2_ProgrammeFault.p17_eq, if_neg (by rw [dt]; omega), if_neg (by rw [dt]; omega)]
    exact .mk _ (fun _ j h0 h1 => absurd h1 (by omega))
  | succ u ih =>
    intro k b hu hk hb
    have hlt : k < p.2.length := by omega
    have a : decide ((k : Int) < (p.2.length : Int)) = true := by rw [dt]; omega
    rw [prop_Check.p16_eq, spyref2_ProgrammeFault.p17_eq]
    simp only [if_pos a, if_pos (show (0 : Int) ≤ k by omega), if_pos (show (k : Int) < p.2.length by omega), if_pos (show (k : Int) ≤ p.2.length by omega), toNat_nat, getD_nat _ _ hlt, wi_nat (show k < 9223372036854775807 by omega)]
    obtain ⟨e, e1, e2, _⟩ := request_same p.2[k]
    rw [e1, e2, bind_some_, bind_some_]
    refine .ite Iff.rfl (fun q => .mk _ (fun z => by rw [z] at q; exact absurd q (by decide))) (fun q => ?_)
    have he : e = 0 := Classical.byContradiction fun z => q (by rw [ne_t]; exact z)
    subst he
    have pp := prog_p23 p p.2 p.2.length k p.2[k] (p.2.take k) (by simp; omega) _ 0 rfl (by omega)
    rw [show ((0 : Nat) : Int) = 0 from rfl, List.drop_zero] at pp
    rw [pp, within_in, in_val, bind_some_, wi_nat (by omega)]
    refine .ite (hb _) (fun _ => .mk _ (fun z => by cases z)) (fun hn => ?_)
    refine .ite Iff.rfl (fun _ => .mk _ (fun z => by cases z)) (fun hi => ?_)
    rw [not_t, df, wi (x := (p.1.length : Int) - 1) (by omega) (by omega)] at hi
    have hi' := Classical.byContradiction hi
    have := ih (k + 1) (updM (.int .i64) .bool p.2[k].1 true b) (by omega) (by omega) (by rw [take_map _ _ hlt]; exact mark_upd (fun _ _ => keyI) hb _)
    refine this.imp fun r hr hz j hj hjl => ?_
    by_cases ej : j = k
    · subst ej
      exact ⟨e2, hi'.1, by omega, fun q => hn ((hb _).2 q)⟩
    · exact hr hz j (by omega) hjl
open Classical in
theorem prog_p5 (p : Progr) (h1 : p.1.length ≤ 6) (hl : p.2.length ≤ 16) : ∀ (u k : Nat) (b : List (ByteArray × Bool)), p.1.length - k = u → k ≤ p.1.length → (∀ x, (lookM .str .bool x b).getD false = true ↔ x ∈ (p.1.take k).map (·.1)) → Same (fun r => r = 0 → ∀ j, (h : j < p.2.length) → OkAt p j h) (prop_Check.p5 p.1 p.1.length k p b) (spyref2_ProgrammeFault.p4 p.1 p.1.length k p) := by
  intro u
  induction u with
  | zero =>
    intro k b hu hk hb
    rw [prop_Check.p5_eq, spyref2_ProgrammeFault.p4_eq, if_neg (by rw [dt]; omega), if_neg (by rw [dt]; omega)]
    have := prog_p16 p h1 hl _ 0 [] rfl (by omega) (fun x => by simp [lookM])
    exact this.imp fun r hr hz j hj => hr hz j (by omega) hj
  | succ u ih =>
    intro k b hu hk hb
    have hlt : k < p.1.length := by omega
    have a : decide ((k : Int) < (p.1.length : Int)) = true := by rw [dt]; omega
    rw [prop_Check.p5_eq, spyref2_ProgrammeFault.p4_eq]
    simp only [if_pos a, if_pos (show (0 : Int) ≤ k by omega), if_pos (show (k : Int) < p.1.length by omega), if_pos (show (k : Int) ≤ p.1.length by omega), toNat_nat, getD_nat _ _ hlt, wi_nat (show k < 9223372036854775807 by omega)]
    obtain ⟨e, e1, e2, _⟩ := proposal_same p.1[k]
    rw [e1, e2, bind_some_, bind_some_]
    refine .ite Iff.rfl (fun q => .mk _ (fun z => by rw [z] at q; exact absurd q (by decide))) (fun q => ?_)
    have pp := prog_p10 p p.1 p.1.length k p.1[k] (p.1.take k) (by simp; omega) _ 0 rfl (by omega)
    rw [show ((0 : Nat) : Int) = 0 from rfl, List.drop_zero] at pp
    rw [pp, wi_nat (by omega)]
    refine .ite (hb _) (fun _ => .mk _ (fun z => by cases z)) (fun hn => ?_)
    exact ih (k + 1) _ (by omega) (by omega) (by rw [take_map _ _ hlt]; exact mark_upd (fun _ _ => keyS) hb _)
structure ProgOk (p : Progr) : Prop where
  names : p.1.length ≤ 6
  reqs : p.2.length ≤ 16
  at_ : ∀ j, (h : j < p.2.length) → OkAt p j h
theorem prog_same (p : Progr) : Same (fun r => r = 0 → ProgOk p) (prop_Check p) (spyref2_ProgrammeFault p) := by
  rw [prop_Check_eq, spyref2_ProgrammeFault_eq]
  refine .ite Iff.rfl (fun h1 => .ite Iff.rfl (fun _ => .mk _ (fun z => by cases z)) (fun h2 => ?_)) (fun _ => .mk _ (fun z => by cases z))
  rw [df] at h1
  rw [dt] at h2
  have := prog_p5 p (by omega) (by omega) _ 0 [] rfl (by omega) (fun x => by simp [lookM])
  exact this.imp fun r hr hz => ⟨by omega, by omega, hr hz⟩

end Go.Proofs.YtgmdmfbdolbpnaaDoor.Pure
