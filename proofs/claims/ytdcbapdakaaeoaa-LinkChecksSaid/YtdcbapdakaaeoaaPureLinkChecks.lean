/- LinkChecks: the pure statement, proved. -/
import Derived.Test.YtdcbapdakaaeoaaEA0
import Derived.Test.YtdcbapdakaaeoaaEA1
import Derived.Test.YtdcbapdakaaeoaaPl
namespace Go.Proofs.Ytdcbapdakaaeoaa.Pure
set_option linter.unusedVariables false
set_option linter.unusedSimpArgs false
open Go Go.RowKit Go.Proofs.Ytdcbapdakaaeoaa.Pv Go.Proofs.Ytdcbapdakaaeoaa.Pl Go.Proofs.Ytdcbapdakaaeoaa.EA

/-! Two computations with one answer. -/
def Same {α : Type} (p : α → Prop) (x y : Option α) : Prop := ∃ r, x = some r ∧ y = some r ∧ p r
theorem Same.mk {α : Type} {p : α → Prop} (a : α) (h : p a) : Same p (some a) (some a) := ⟨a, rfl, rfl, h⟩
theorem Same.ite {α : Type} {p : α → Prop} {c c' : Prop} [Decidable c] [Decidable c'] {a b a' b' : Option α} (h : c ↔ c') (h1 : c → Same p a a') (h2 : ¬ c → Same p b b') : Same p (if c then a else b) (if c' then a' else b') := by
  by_cases q : c
  · rw [if_pos q, if_pos (h.1 q)]; exact h1 q
  · rw [if_neg q, if_neg (fun k => q (h.2 k))]; exact h2 q
theorem Same.bind {α β : Type} {p : α → Prop} {q : β → Prop} {x y : Option β} {f g : β → Option α} (h : Same q x y) (k : ∀ r, q r → Same p (f r) (g r)) : Same p (x.bind f) (y.bind g) := by
  obtain ⟨r, h1, h2, h3⟩ := h
  rw [h1, h2]
  exact k r h3
theorem Same.of {α : Type} {p : α → Prop} {x y : Option α} (h1 : x = y) (h2 : ∃ r, y = some r ∧ p r) : Same p x y := by
  obtain ⟨r, h2, h3⟩ := h2
  exact ⟨r, h1.trans h2, h2, h3⟩
theorem Same.imp {α : Type} {p q : α → Prop} {x y : Option α} (h : Same p x y) (k : ∀ r, p r → q r) : Same q x y := by
  obtain ⟨r, h1, h2, h3⟩ := h
  exact ⟨r, h1, h2, k r h3⟩
/-- One more test on one side. -/
theorem Same.left {α : Type} {p : α → Prop} {c : Prop} [Decidable c] {a b y : Option α} (h1 : c → Same p a y) (h2 : ¬ c → Same p b y) : Same p (if c then a else b) y := by
  by_cases q : c
  · rw [if_pos q]; exact h1 q
  · rw [if_neg q]; exact h2 q
theorem Same.right {α : Type} {p : α → Prop} {c : Prop} [Decidable c] {a b x : Option α} (h1 : c → Same p x a) (h2 : ¬ c → Same p x b) : Same p x (if c then a else b) := by
  by_cases q : c
  · rw [if_pos q]; exact h1 q
  · rw [if_neg q]; exact h2 q
theorem Same.law {α : Type} {p : α → Prop} {x y : Option α} {f : α → α → Bool} (h : Same p x y) (hf : ∀ r, p r → f r r = true) : (x.bind fun a => y.bind fun b => some (f a b)) = some true := by
  obtain ⟨r, h1, h2, h3⟩ := h
  rw [h1, h2]
  show some (f r r) = some true
  rw [hf r h3]
/-! Fates and commands: what is wrong with them. -/
abbrev Fate_ : Type := Bool × Int × Int × List Int
theorem in_val (n a b : Int) : spyref2_In n a b = some (decide (a ≤ n ∧ n ≤ b)) := by
  rw [spyref2_In_eq]
  by_cases h : a ≤ n
  · rw [if_pos (by rw [dt]; exact h)]
    simp [h]
  · rw [if_neg (by rw [dt]; exact h)]
    simp [h]
theorem contains_run (l : List Int) (id : Int) (hl : l.length ≤ 1000) : ∀ (u k : Nat), l.length - k = u → k ≤ l.length → ∃ r, slices_Index_int_int.p2 l id l.length k = some r ∧ (r ≥ 0 ↔ id ∈ l.drop k) := by
  intro u
  induction u with
  | zero =>
    intro k h hk
    rw [slices_Index_int_int.p2_eq, if_neg (by rw [dt]; omega), List.drop_eq_nil_of_le (by omega)]
    exact ⟨_, rfl, by simp⟩
  | succ u ih =>
    intro k h hk
    have hlt : k < l.length := by omega
    rw [slices_Index_int_int.p2_eq, if_pos (by rw [dt]; omega), if_pos (by omega), if_pos (by omega), toNat_nat, getD_nat _ _ hlt, wi_nat (by omega), List.drop_eq_getElem_cons hlt]
    by_cases c : id = l[k]
    · rw [if_pos (by rw [eq_t]; exact c)]
      exact ⟨_, rfl, by rw [← c]; simp⟩
    · rw [if_neg (by rw [eq_t]; exact c)]
      obtain ⟨r, h1, h2⟩ := ih (k + 1) (by omega) (by omega)
      exact ⟨r, h1, by rw [h2, List.mem_cons]; simp [c]⟩
theorem contains_val (l : List Int) (id : Int) (hl : l.length ≤ 1000) : slices_Contains_int_int l id = some (decide (id ∈ l)) := by
  obtain ⟨r, h1, h2⟩ := contains_run l id hl _ 0 rfl (by omega)
  rw [slices_Contains_int_int_eq, slices_Index_int_int_eq]
  rw [show ((0 : Nat) : Int) = 0 from rfl] at h1
  rw [h1, bind_some_, decide_eq_decide.2 h2]
  rfl
theorem fate_p15 (b : Int) (t46 : List Int) (t47 t48 : Int) (f : Fate_) (l : List Int) (hl : l.length ≤ 3) : ∀ (u k : Nat), l.length - k = u → k ≤ l.length → link_CheckFate.p15 b t46 t47 t48 l l.length k f = if b ∈ l.drop k then some 7 else link_CheckFate.p10 t46 t47 (IntKind.i64.wrap (t48 + 1)) f := by
  intro u
  induction u with
  | zero =>
    intro k h hk
    rw [link_CheckFate.p15_eq, if_neg (by rw [dt]; omega), List.drop_eq_nil_of_le (by omega), if_neg (by simp)]
  | succ u ih =>
    intro k h hk
    have hlt : k < l.length := by omega
    rw [link_CheckFate.p15_eq, if_pos (by rw [dt]; omega), if_pos (by omega), if_pos (by omega), toNat_nat, getD_nat _ _ hlt, wi_nat (by omega), List.drop_eq_getElem_cons hlt]
    by_cases c : b = l[k]
    · rw [if_pos (by rw [eq_t]; exact c), if_pos (List.mem_cons.2 (.inl c))]
    · rw [if_neg (by rw [eq_t]; exact c), ih (k + 1) (by omega) (by omega)]
      by_cases d : b ∈ l.drop (k + 1)
      · rw [if_pos d, if_pos (List.mem_cons.2 (.inr d))]
      · rw [if_neg d, if_neg (fun q => (List.mem_cons.1 q).elim c d)]
theorem fate_p10 (f : Fate_) (hl : f.2.2.2.length ≤ 3) : ∀ (u k : Nat), f.2.2.2.length - k = u → k ≤ f.2.2.2.length → Same (fun _ => True) (link_CheckFate.p10 f.2.2.2 f.2.2.2.length k f) (spylaw2_fateFault.p10 f.2.2.2 f.2.2.2.length k f) := by
  intro u
  induction u with
  | zero =>
    intro k h hk
    rw [link_CheckFate.p10_eq, spylaw2_fateFault.p10_eq, if_neg (by rw [dt]; omega), if_neg (by rw [dt]; omega)]
    exact .mk _ trivial
  | succ u ih =>
    intro k h hk
    have hlt : k < f.2.2.2.length := by omega
    have a : decide ((k : Int) < (f.2.2.2.length : Int)) = true := by rw [dt]; omega
    have pp := fate_p15 (f.2.2.2.getD k 0) f.2.2.2 f.2.2.2.length k f (f.2.2.2.take k) (by rw [List.length_take]; omega) _ 0 rfl (by omega)
    rw [show ((0 : Nat) : Int) = 0 from rfl, List.drop_zero] at pp
    rw [link_CheckFate.p10_eq, spylaw2_fateFault.p10_eq]
    simp only [if_pos a, if_pos (show (0 : Int) ≤ k by omega), if_pos (show (k : Int) < f.2.2.2.length by omega), if_pos (show (k : Int) ≤ f.2.2.2.length by omega), toNat_nat]
    refine .ite Iff.rfl (fun _ => .mk _ trivial) (fun _ => ?_)
    rw [pp, contains_val _ _ (by rw [List.length_take]; omega), bind_some_, wi_nat (by omega)]
    by_cases d : f.2.2.2.getD k 0 ∈ f.2.2.2.take k
    · rw [if_pos d, if_pos (by rw [dt]; exact d)]
      exact .mk _ trivial
    · rw [if_neg d, if_neg (by rw [dt]; exact d)]
      exact ih (k + 1) (by omega) (by omega)
theorem fate_same (f : Fate_) : Same (fun _ => True) (link_CheckFate f) (spylaw2_fateFault f) := by
  rw [link_CheckFate_eq, spylaw2_fateFault_eq, in_val, in_val, bind_some_, bind_some_]
  refine .ite Iff.rfl (fun _ => .ite Iff.rfl (fun _ => .ite Iff.rfl (fun _ => .ite ?_ (fun _ => .mk _ trivial) (fun _ => .mk _ trivial)) (fun _ => .mk _ trivial)) (fun _ => .mk _ trivial)) (fun _ => ?_)
  · rw [ne_t, dt]; omega
  by_cases c1 : 1 ≤ f.2.1 ∧ f.2.1 ≤ 8
  · rw [if_pos (by rw [df]; omega), if_pos (by rw [df]; omega), if_pos (show (!decide (1 ≤ f.2.1 ∧ f.2.1 ≤ 8)) = false by rw [not_f, dt]; exact c1)]
    by_cases c2 : 0 ≤ f.2.2.1 ∧ f.2.2.1 ≤ 8
    · rw [if_pos (by rw [df]; omega), if_neg (show ¬ decide (f.2.2.1 > 8) = true by rw [dt]; omega), if_neg (show ¬ (!decide (0 ≤ f.2.2.1 ∧ f.2.2.1 ≤ 8)) = true by rw [not_t, df]; exact fun z => z c2)]
      refine .ite Iff.rfl (fun _ => .mk _ trivial) (fun h => ?_)
      rw [dt] at h
      exact fate_p10 f (by omega) _ 0 rfl (by omega)
    · rw [if_pos (show (!decide (0 ≤ f.2.2.1 ∧ f.2.2.1 ≤ 8)) = true by rw [not_t, df]; exact c2)]
      by_cases c3 : f.2.2.1 < 0
      · rw [if_neg (show ¬ decide (f.2.2.1 < 0) = false by rw [df]; exact fun z => z c3)]
        exact .mk _ trivial
      · rw [if_pos (show decide (f.2.2.1 < 0) = false by rw [df]; exact c3), if_pos (show decide (f.2.2.1 > 8) = true by rw [dt]; omega)]
        exact .mk _ trivial
  · rw [if_neg (show ¬ (!decide (1 ≤ f.2.1 ∧ f.2.1 ≤ 8)) = false by rw [not_f, dt]; exact c1)]
    by_cases c3 : f.2.1 < 1
    · rw [if_neg (show ¬ decide (f.2.1 < 1) = false by rw [df]; exact fun z => z c3)]
      exact .mk _ trivial
    · rw [if_pos (show decide (f.2.1 < 1) = false by rw [df]; exact c3), if_neg (show ¬ decide (f.2.1 > 8) = false by rw [df]; omega)]
      exact .mk _ trivial
theorem concat_fates (a b : List Fate_) (h : a.length + b.length ≤ 100000) : slices_Concat_link_Fate [a, b] = some (a ++ b) := by
  have g : ∀ n : Nat, n ≤ 100000 → slices_Grow_link_Fate (n : Int) = some [] := by
    intro n hn
    rw [slices_Grow_link_Fate_eq, if_neg (by rw [dt]; omega), wi (x := (n : Int) - 0) (by omega) (by omega)]
    by_cases z : (n : Int) - 0 > 0
    · rw [if_pos (by rw [dt]; exact z), if_pos (by omega), if_pos (by omega), if_pos (by omega)]
      rfl
    · rw [if_neg (by rw [dt]; exact z)]
  have q0 : ∀ x y : List Fate_, [x, y].getD 0 [] = x := fun _ _ => rfl
  have q1 : ∀ x y : List Fate_, [x, y].getD 1 [] = y := fun _ _ => rfl
  have w1 : IntKind.i64.wrap (0 + 1) = 1 := by decide +kernel
  have w2 : IntKind.i64.wrap (1 + 1) = 2 := by decide +kernel
  have l2 : ([a, b].length : Int) = 2 := rfl
  have t0 : (0 : Int).toNat = 0 := rfl
  have t1 : (1 : Int).toNat = 1 := rfl
  rw [slices_Concat_link_Fate_eq, slices_Concat_link_Fate.p3_eq]
  simp only [l2, t0, q0, w1]
  rw [if_pos (by decide), if_pos (by decide), if_pos (by decide), wi (x := 0 + (a.length : Int)) (by omega) (by omega), if_neg (by rw [dt]; omega), slices_Concat_link_Fate.p3_eq]
  simp only [l2, t1, q1, w2]
  rw [if_pos (by decide), if_pos (by decide), if_pos (by decide), wi (x := 0 + (a.length : Int) + (b.length : Int)) (by omega) (by omega), if_neg (by rw [dt]; omega), slices_Concat_link_Fate.p3_eq]
  rw [if_neg (by decide), show 0 + (a.length : Int) + (b.length : Int) = ((a.length + b.length : Nat) : Int) by omega, g _ h, bind_some_, slices_Concat_link_Fate.p11_eq]
  simp only [l2, t0, q0, w1]
  rw [if_pos (by decide), if_pos (by decide), if_pos (by decide), if_pos (by simp only [List.length_nil]; omega), slices_Concat_link_Fate.p11_eq]
  simp only [l2, t1, q1, w2]
  rw [if_pos (by decide), if_pos (by decide), if_pos (by decide), if_pos (by simp only [List.nil_append]; omega), slices_Concat_link_Fate.p11_eq, if_neg (by decide)]
  rfl
theorem fates_run (X a : List Fate_) (o : Nat) (T : List (List Fate_)) (t55 t56 : Int) (hX : X.length ≤ 1000) (hoa : o + a.length ≤ X.length) (hg : ∀ i, i < a.length → X.getD (o + i) (false, 0, 0, []) = a.getD i (false, 0, 0, [])) : ∀ (u k : Nat), a.length - k = u → k ≤ a.length →
    (∃ e, e ≠ 0 ∧ link_Check.p13 T t55 t56 a a.length k = some e ∧ spylaw2_lineFault.p10 X X.length ((o + k : Nat) : Int) = some e) ∨ (link_Check.p13 T t55 t56 a a.length k = link_Check.p10 T t55 (IntKind.i64.wrap (t56 + 1)) ∧ spylaw2_lineFault.p10 X X.length ((o + k : Nat) : Int) = spylaw2_lineFault.p10 X X.length ((o + a.length : Nat) : Int)) := by
  intro u
  induction u with
  | zero =>
    intro k h hk
    obtain rfl : k = a.length := by omega
    right
    rw [link_Check.p13_eq, if_neg (by rw [dt]; omega)]
    exact ⟨rfl, rfl⟩
  | succ u ih =>
    intro k h hk
    obtain ⟨e, e1, e2, _⟩ := fate_same (a.getD k (false, 0, 0, []))
    have f1 : link_Check.p13 T t55 t56 a a.length k = if (e != 0) = true then some e else link_Check.p13 T t55 t56 a a.length ((k + 1 : Nat) : Int) := by
      rw [link_Check.p13_eq, if_pos (by rw [dt]; omega), if_pos (by omega), if_pos (by omega), toNat_nat, e1, bind_some_, wi_nat (by omega)]
    have f2 : spylaw2_lineFault.p10 X X.length ((o + k : Nat) : Int) = if (e != 0) = true then some e else spylaw2_lineFault.p10 X X.length ((o + (k + 1) : Nat) : Int) := by
      rw [spylaw2_lineFault.p10_eq, if_pos (by rw [dt]; omega), if_pos (by omega), if_pos (by omega), toNat_nat, hg k (by omega), e2, bind_some_, wi_nat (by omega)]
      rfl
    rw [f1, f2]
    by_cases he : e = 0
    · rw [if_neg (by rw [ne_t]; exact fun q => q he), if_neg (by rw [ne_t]; exact fun q => q he)]
      exact ih (k + 1) (by omega) (by omega)
    · rw [if_pos (by rw [ne_t]; exact he), if_pos (by rw [ne_t]; exact he)]
      exact .inl ⟨e, he, rfl, rfl⟩
theorem lists_same (x y : List Fate_) (hx : x.length ≤ 200) (hy : y.length ≤ 200) : Same (fun _ => True) (link_Check.p10 [x, y] 2 0) ((slices_Concat_link_Fate [x, y]).bind fun r2 => spylaw2_lineFault.p10 r2 (r2.length : Int) 0) := by
  have w1 : IntKind.i64.wrap (0 + 1) = 1 := by decide +kernel
  have w2 : IntKind.i64.wrap (1 + 1) = 2 := by decide +kernel
  have hlen : (x ++ y).length = x.length + y.length := List.length_append
  rw [concat_fates _ _ (by omega), bind_some_]
  have r1 := fates_run (x ++ y) x 0 [x, y] 2 0 (by omega) (by omega) (fun i hi => by rw [Nat.zero_add, List.getD_eq_getElem?_getD, List.getElem?_append_left hi, ← List.getD_eq_getElem?_getD]) _ 0 rfl (by omega)
  have r2 := fates_run (x ++ y) y x.length [x, y] 2 1 (by omega) (by omega) (fun i hi => by rw [List.getD_eq_getElem?_getD, List.getElem?_append_right (by omega), Nat.add_sub_cancel_left, ← List.getD_eq_getElem?_getD]) _ 0 rfl (by omega)
  rw [show ((0 + 0 : Nat) : Int) = 0 from rfl, w1] at r1
  rw [show ((0 : Nat) : Int) = 0 from rfl, w2, Nat.add_zero] at r2
  have p10a : link_Check.p10 [x, y] 2 0 = link_Check.p13 [x, y] 2 0 x x.length 0 := by
    rw [link_Check.p10_eq, if_pos (by decide), if_pos (by decide), if_pos (by show (0 : Int) < 2; decide)]
    rfl
  have p10b : link_Check.p10 [x, y] 2 1 = link_Check.p13 [x, y] 2 1 y y.length 0 := by
    rw [link_Check.p10_eq, if_pos (by decide), if_pos (by decide), if_pos (by show (1 : Int) < 2; decide)]
    rfl
  have p10c : link_Check.p10 [x, y] 2 2 = some 0 := by
    rw [link_Check.p10_eq, if_neg (by decide)]
  have pe : spylaw2_lineFault.p10 (x ++ y) (x ++ y).length ((x.length + y.length : Nat) : Int) = some 0 := by
    rw [spylaw2_lineFault.p10_eq, if_neg (by rw [dt]; omega)]
  rw [p10a]
  rcases r1 with ⟨e, _, k1, k2⟩ | ⟨k1, k2⟩
  · exact ⟨e, k1, k2, trivial⟩
  · rw [k1, k2, Nat.zero_add, p10b]
    rcases r2 with ⟨e, _, k1, k2⟩ | ⟨k1, k2⟩
    · exact ⟨e, k1, k2, trivial⟩
    · exact ⟨0, by rw [k1, p10c], by rw [k2, pe], trivial⟩
theorem line_p4 (x y : List Fate_) (hx : x.length ≤ 200) (hy : y.length ≤ 200) (l : List (Int × Int × Int)) (hl : l.length ≤ 16) : ∀ (u k : Nat), l.length - k = u → k ≤ l.length → Same (fun _ => True) (link_Check.p4 x y l l.length k) (spylaw2_lineFault.p4 x y l l.length k) := by
  intro u
  induction u with
  | zero =>
    intro k h hk
    rw [link_Check.p4_eq, spylaw2_lineFault.p4_eq, if_neg (by rw [dt]; omega), if_neg (by rw [dt]; omega)]
    exact lists_same x y hx hy
  | succ u ih =>
    intro k h hk
    have a : decide ((k : Int) < (l.length : Int)) = true := by rw [dt]; omega
    rw [link_Check.p4_eq, spylaw2_lineFault.p4_eq]
    simp only [if_pos a, if_pos (show (0 : Int) ≤ k by omega), if_pos (show (k : Int) < l.length by omega), toNat_nat, wi_nat (show k < 9223372036854775807 by omega), in_val, bind_some_]
    generalize l.getD k (0, 0, 0) = q
    by_cases c1 : 0 ≤ q.1 ∧ q.1 ≤ 255
    · rw [if_pos (show decide (q.1 < 0) = false by rw [df]; omega), if_pos (show decide (q.1 > 255) = false by rw [df]; omega), if_pos (show (!decide (0 ≤ q.1 ∧ q.1 ≤ 255)) = false by rw [not_f, dt]; exact c1)]
      by_cases c2 : 0 ≤ q.2.2 ∧ q.2.2 ≤ 2000
      · rw [if_pos (show decide (q.2.2 < 0) = false by rw [df]; omega), if_neg (show ¬ decide (q.2.2 > 2000) = true by rw [dt]; omega), if_neg (show ¬ (!decide (0 ≤ q.2.2 ∧ q.2.2 ≤ 2000)) = true by rw [not_t, df]; exact fun z => z c2)]
        exact ih (k + 1) (by omega) (by omega)
      · rw [if_pos (show (!decide (0 ≤ q.2.2 ∧ q.2.2 ≤ 2000)) = true by rw [not_t, df]; exact c2)]
        by_cases c3 : q.2.2 < 0
        · rw [if_neg (show ¬ decide (q.2.2 < 0) = false by rw [df]; exact fun z => z c3)]
          exact .mk _ trivial
        · rw [if_pos (show decide (q.2.2 < 0) = false by rw [df]; exact c3), if_pos (show decide (q.2.2 > 2000) = true by rw [dt]; omega)]
          exact .mk _ trivial
    · rw [if_neg (show ¬ (!decide (0 ≤ q.1 ∧ q.1 ≤ 255)) = false by rw [not_f, dt]; exact c1)]
      by_cases c3 : q.1 < 0
      · rw [if_neg (show ¬ decide (q.1 < 0) = false by rw [df]; exact fun z => z c3)]
        exact .mk _ trivial
      · rw [if_pos (show decide (q.1 < 0) = false by rw [df]; exact c3), if_neg (show ¬ decide (q.1 > 255) = false by rw [df]; omega)]
        exact .mk _ trivial
theorem line_same (l : List (Int × Int × Int)) (x y : List Fate_) : Same (fun _ => True) (link_Check l x y) (spylaw2_lineFault l x y) := by
  rw [link_Check_eq, spylaw2_lineFault_eq]
  refine .ite Iff.rfl (fun h1 => .ite Iff.rfl (fun h2 => .ite Iff.rfl (fun _ => .mk _ trivial) (fun h3 => ?_)) (fun _ => .mk _ trivial)) (fun _ => .mk _ trivial)
  rw [df] at h1 h2
  rw [dt] at h3
  exact line_p4 x y (by omega) (by omega) l (by omega) _ 0 rfl (by omega)
theorem links_ok : spylaw2_links = some true := callL_some.2 ⟨400, by kernel_rfl⟩
theorem LinkChecks : ∀ (x0 : List (Int × Int × Int)) (x1 : List (Bool × Int × Int × List Int)) (x2 : List (Bool × Int × Int × List Int)) (x3 : Bool × Int × Int × List Int), goodT Try.prog (.list false 39 (.prod (.int .i64) (.prod (.int .i64) (.int .i64)))) x0 → goodT Try.prog (.list false 26 (.prod .bool (.prod (.int .i64) (.prod (.int .i64) (.list false 3 (.int .i64)))))) x1 → goodT Try.prog (.list false 26 (.prod .bool (.prod (.int .i64) (.prod (.int .i64) (.list false 3 (.int .i64)))))) x2 → goodT Try.prog (.prod .bool (.prod (.int .i64) (.prod (.int .i64) (.list false 3 (.int .i64))))) x3 → spylaw2_LinkChecks x0 x1 x2 x3 = some true := by
  intro l x y f _ _ _ _
  obtain ⟨e, e1, e2, _⟩ := fate_same f
  obtain ⟨g, g1, g2, _⟩ := line_same l x y
  rw [spylaw2_LinkChecks_eq, links_ok, bind_some_, if_pos (by decide), e1, bind_some_, e2, bind_some_, if_pos (show (e != e) = false by simp), g1, bind_some_, g2, bind_some_, if_neg (show ¬ (g != g) = true by simp), link_Calm_eq, bind_some_]
  simp

end Go.Proofs.Ytdcbapdakaaeoaa.Pure
