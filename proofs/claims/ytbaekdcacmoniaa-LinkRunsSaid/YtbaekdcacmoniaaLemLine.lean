/- What is wrong with commands and fates; messages and parcels. -/
import Derived.Test.YtbaekdcacmoniaaEA0
import Derived.Test.YtbaekdcacmoniaaEA1
import Derived.Test.YtbaekdcacmoniaaEA2
import Derived.Test.YtbaekdcacmoniaaPl
import Derived.Test.YtbaekdcacmoniaaLemBus
import Derived.Test.YtbaekdcacmoniaaLemCrc
import Derived.Test.YtbaekdcacmoniaaLemFr
namespace Go.Proofs.Ytbaekdcacmoniaa.Pure
set_option linter.unusedVariables false
set_option linter.unusedSimpArgs false
open Go Go.RowKit Go.Proofs.Ytbaekdcacmoniaa.Pv Go.Proofs.Ytbaekdcacmoniaa.Pl Go.Proofs.Ytbaekdcacmoniaa.EA

/-! Fates and commands: what is wrong with them. -/
abbrev Fate_ : Type := Bool × Int × Int × List Int
theorem in_val (n a b : Int) : spyref2_In n a b = some (decide (a ≤ n ∧ n ≤ b)) := by
  rw [spyref2_In_eq]
  by_cases h : a ≤ n
  · rw [if_pos (by rw [dt]; exact h)]
    simp [h]
  · rw [if_neg (by rw [dt]; exact h)]
    simp [h]
theorem contains_run (l : List Int) (id : Int) (hl : l.length ≤ 1000) : ∀ (u k : Nat), l.length - k = u → k ≤ l.length → ∃ r, slices_Index_int_int.p2 l id l.length k = some r ∧ (r ≥ 0 ↔ id ∈ l.drop k) := by
  intro u
  induction u with
  | zero =>
    intro k h hk
    rw [slices_Index_int_int.p2_eq, if_neg (by rw [dt]; omega), List.drop_eq_nil_of_le (by omega)]
    exact ⟨_, rfl, by simp⟩
  | succ u ih =>
    intro k h hk
    have hlt : k < l.length := by omega
    rw [slices_Index_int_int.p2_eq, if_pos (by rw [dt]; omega), if_pos (by omega), if_pos (by omega), toNat_nat, getD_nat _ _ hlt, wi_nat (by omega), List.drop_eq_getElem_cons hlt]
    by_cases c : id = l[k]
    · rw [if_pos (by rw [eq_t]; exact c)]
      exact ⟨_, rfl, by rw [← c]; simp⟩
    · rw [if_neg (by rw [eq_t]; exact c)]
      obtain ⟨r, h1, h2⟩ := ih (k + 1) (by omega) (by omega)
      exact ⟨r, h1, by rw [h2, List.mem_cons]; simp [c]⟩
theorem contains_val (l : List Int) (id : Int) (hl : l.length ≤ 1000) : slices_Contains_int_int l id = some (decide (id ∈ l)) := by
  obtain ⟨r, h1, h2⟩ := contains_run l id hl _ 0 rfl (by omega)
  rw [slices_Contains_int_int_eq, slices_Index_int_int_eq]
  rw [show ((0 : Nat) : Int) = 0 from rfl] at h1
  rw [h1, bind_some_, decide_eq_decide.2 h2]
  rfl
theorem fate_p15 (b : Int) (t46 : List Int) (t47 t48 : Int) (f : Fate_) (l : List Int) (hl : l.length ≤ 3) : ∀ (u k : Nat), l.length - k = u → k ≤ l.length → link_CheckFate.p15 b t46 t47 t48 l l.length k f = if b ∈ l.drop k then some 7 else link_CheckFate.p10 t46 t47 (IntKind.i64.wrap (t48 + 1)) f := by
  intro u
  induction u with
  | zero =>
    intro k h hk
    rw [link_CheckFate.p15_eq, if_neg (by rw [dt]; omega), List.drop_eq_nil_of_le (by omega), if_neg (by simp)]
  | succ u ih =>
    intro k h hk
    have hlt : k < l.length := by omega
    rw [link_CheckFate.p15_eq, if_pos (by rw [dt]; omega), if_pos (by omega), if_pos (by omega), toNat_nat, getD_nat _ _ hlt, wi_nat (by omega), List.drop_eq_getElem_cons hlt]
    by_cases c : b = l[k]
    · rw [if_pos (by rw [eq_t]; exact c), if_pos (List.mem_cons.2 (.inl c))]
    · rw [if_neg (by rw [eq_t]; exact c), ih (k + 1) (by omega) (by omega)]
      by_cases d : b ∈ l.drop (k + 1)
      · rw [if_pos d, if_pos (List.mem_cons.2 (.inr d))]
      · rw [if_neg d, if_neg (fun q => (List.mem_cons.1 q).elim c d)]
theorem fate_p10 (f : Fate_) (hl : f.2.2.2.length ≤ 3) : ∀ (u k : Nat), f.2.2.2.length - k = u → k ≤ f.2.2.2.length → Same (fun _ => True) (link_CheckFate.p10 f.2.2.2 f.2.2.2.length k f) (spylaw2_fateFault.p10 f.2.2.2 f.2.2.2.length k f) := by
  intro u
  induction u with
  | zero =>
    intro k h hk
    rw [link_CheckFate.p10_eq, spylaw2_fateFault.p10_eq, if_neg (by rw [dt]; omega), if_neg (by rw [dt]; omega)]
    exact .mk _ trivial
  | succ u ih =>
    intro k h hk
    have hlt : k < f.2.2.2.length := by omega
    have a : decide ((k : Int) < (f.2.2.2.length : Int)) = true := by rw [dt]; omega
    have pp := fate_p15 (f.2.2.2.getD k 0) f.2.2.2 f.2.2.2.length k f (f.2.2.2.take k) (by rw [List.length_take]; omega) _ 0 rfl (by omega)
    rw [show ((0 : Nat) : Int) = 0 from rfl, List.drop_zero] at pp
    rw [link_CheckFate.p10_eq, spylaw2_fateFault.p10_eq]
    simp only [if_pos a, if_pos (show (0 : Int) ≤ k by omega), if_pos (show (k : Int) < f.2.2.2.length by omega), if_pos (show (k : Int) ≤ f.2.2.2.length by omega), toNat_nat]
    refine .ite Iff.rfl (fun _ => .mk _ trivial) (fun _ => ?_)
    rw [pp, contains_val _ _ (by rw [List.length_take]; omega), bind_some_, wi_nat (by omega)]
    by_cases d : f.2.2.2.getD k 0 ∈ f.2.2.2.take k
    · rw [if_pos d, if_pos (by rw [dt]; exact d)]
      exact .mk _ trivial
    · rw [if_neg d, if_neg (by rw [dt]; exact d)]
      exact ih (k + 1) (by omega) (by omega)
theorem fate_same (f : Fate_) : Same (fun _ => True) (link_CheckFate f) (spylaw2_fateFault f) := by
  rw [link_CheckFate_eq, spylaw2_fateFault_eq, in_val, in_val, bind_some_, bind_some_]
  refine .ite Iff.rfl (fun _ => .ite Iff.rfl (fun _ => .ite Iff.rfl (fun _ => .ite ?_ (fun _ => .mk _ trivial) (fun _ => .mk _ trivial)) (fun _ => .mk _ trivial)) (fun _ => .mk _ trivial)) (fun _ => ?_)
  · rw [ne_t, dt]; omega
  by_cases c1 : 1 ≤ f.2.1 ∧ f.2.1 ≤ 8
  · rw [if_pos (by rw [df]; omega), if_pos (by rw [df]; omega), if_pos (show (!decide (1 ≤ f.2.1 ∧ f.2.1 ≤ 8)) = false by rw [not_f, dt]; exact c1)]
    by_cases c2 : 0 ≤ f.2.2.1 ∧ f.2.2.1 ≤ 8
    · rw [if_pos (by rw [df]; omega), if_neg (show ¬ decide (f.2.2.1 > 8) = true by rw [dt]; omega), if_neg (show ¬ (!decide (0 ≤ f.2.2.1 ∧ f.2.2.1 ≤ 8)) = true by rw [not_t, df]; exact fun z => z c2)]
      refine .ite Iff.rfl (fun _ => .mk _ trivial) (fun h => ?_)
      rw [dt] at h
      exact fate_p10 f (by omega) _ 0 rfl (by omega)
    · rw [if_pos (show (!decide (0 ≤ f.2.2.1 ∧ f.2.2.1 ≤ 8)) = true by rw [not_t, df]; exact c2)]
      by_cases c3 : f.2.2.1 < 0
      · rw [if_neg (show ¬ decide (f.2.2.1 < 0) = false by rw [df]; exact fun z => z c3)]
        exact .mk _ trivial
      · rw [if_pos (show decide (f.2.2.1 < 0) = false by rw [df]; exact c3), if_pos (show decide (f.2.2.1 > 8) = true by rw [dt]; omega)]
        exact .mk _ trivial
  · rw [if_neg (show ¬ (!decide (1 ≤ f.2.1 ∧ f.2.1 ≤ 8)) = false by rw [not_f, dt]; exact c1)]
    by_cases c3 : f.2.1 < 1
    · rw [if_neg (show ¬ decide (f.2.1 < 1) = false by rw [df]; exact fun z => z c3)]
      exact .mk _ trivial
    · rw [if_pos (show decide (f.2.1 < 1) = false by rw [df]; exact c3), if_neg (show ¬ decide (f.2.1 > 8) = false by rw [df]; omega)]
      exact .mk _ trivial
theorem concat_fates (a b : List Fate_) (h : a.length + b.length ≤ 100000) : slices_Concat_link_Fate [a, b] = some (a ++ b) := by
  have g : ∀ n : Nat, n ≤ 100000 → slices_Grow_link_Fate (n : Int) = some [] := by
    intro n hn
    rw [slices_Grow_link_Fate_eq, if_neg (by rw [dt]; omega), wi (x := (n : Int) - 0) (by omega) (by omega)]
    by_cases z : (n : Int) - 0 > 0
    · rw [if_pos (by rw [dt]; exact z), if_pos (by omega), if_pos (by omega), if_pos (by omega)]
      rfl
    · rw [if_neg (by rw [dt]; exact z)]
  have q0 : ∀ x y : List Fate_, [x, y].getD 0 [] = x := fun _ _ => rfl
  have q1 : ∀ x y : List Fate_, [x, y].getD 1 [] = y := fun _ _ => rfl
  have w1 : IntKind.i64.wrap (0 + 1) = 1 := by decide +kernel
  have w2 : IntKind.i64.wrap (1 + 1) = 2 := by decide +kernel
  have l2 : ([a, b].length : Int) = 2 := rfl
  have t0 : (0 : Int).toNat = 0 := rfl
  have t1 : (1 : Int).toNat = 1 := rfl
  rw [slices_Concat_link_Fate_eq, slices_Concat_link_Fate.p3_eq]
  simp only [l2, t0, q0, w1]
  rw [if_pos (by decide), if_pos (by decide), if_pos (by decide), wi (x := 0 + (a.length : Int)) (by omega) (by omega), if_neg (by rw [dt]; omega), slices_Concat_link_Fate.p3_eq]
  simp only [l2, t1, q1, w2]
  rw [if_pos (by decide), if_pos (by decide), if_pos (by decide), wi (x := 0 + (a.length : Int) + (b.length : Int)) (by omega) (by omega), if_neg (by rw [dt]; omega), slices_Concat_link_Fate.p3_eq]
  rw [if_neg (by decide), show 0 + (a.length : Int) + (b.length : Int) = ((a.length + b.length : Nat) : Int) by omega, g _ h, bind_some_, slices_Concat_link_Fate.p11_eq]
  simp only [l2, t0, q0, w1]
  rw [if_pos (by decide), if_pos (by decide), if_pos (by decide), if_pos (by simp only [List.length_nil]; omega), slices_Concat_link_Fate.p11_eq]
  simp only [l2, t1, q1, w2]
  rw [if_pos (by decide), if_pos (by decide), if_pos (by decide), if_pos (by simp only [List.nil_append]; omega), slices_Concat_link_Fate.p11_eq, if_neg (by decide)]
  rfl
theorem fates_run (X a : List Fate_) (o : Nat) (T : List (List Fate_)) (t55 t56 : Int) (hX : X.length ≤ 1000) (hoa : o + a.length ≤ X.length) (hg : ∀ i, i < a.length → X.getD (o + i) (false, 0, 0, []) = a.getD i (false, 0, 0, [])) : ∀ (u k : Nat), a.length - k = u → k ≤ a.length →
    (∃ e, e ≠ 0 ∧ link_Check.p13 T t55 t56 a a.length k = some e ∧ spylaw2_lineFault.p10 X X.length ((o + k : Nat) : Int) = some e) ∨ (link_Check.p13 T t55 t56 a a.length k = link_Check.p10 T t55 (IntKind.i64.wrap (t56 + 1)) ∧ spylaw2_lineFault.p10 X X.length ((o + k : Nat) : Int) = spylaw2_lineFault.p10 X X.length ((o + a.length : Nat) : Int)) := by
  intro u
  induction u with
  | zero =>
    intro k h hk
    obtain rfl : k = a.length := by omega
    right
    rw [link_Check.p13_eq, if_neg (by rw [dt]; omega)]
    exact ⟨rfl, rfl⟩
  | succ u ih =>
    intro k h hk
    obtain ⟨e, e1, e2, _⟩ := fate_same (a.getD k (false, 0, 0, []))
    have f1 : link_Check.p13 T t55 t56 a a.length k = if (e != 0) = true then some e else link_Check.p13 T t55 t56 a a.length ((k + 1 : Nat) : Int) := by
      rw [link_Check.p13_eq, if_pos (by rw [dt]; omega), if_pos (by omega), if_pos (by omega), toNat_nat, e1, bind_some_, wi_nat (by omega)]
    have f2 : spylaw2_lineFault.p10 X X.length ((o + k : Nat) : Int) = if (e != 0) = true then some e else spylaw2_lineFault.p10 X X.length ((o + (k + 1) : Nat) : Int) := by
      rw [spylaw2_lineFault.p10_eq, if_pos (by rw [dt]; omega), if_pos (by omega), if_pos (by omega), toNat_nat, hg k (by omega), e2, bind_some_, wi_nat (by omega)]
      rfl
    rw [f1, f2]
    by_cases he : e = 0
    · rw [if_neg (by rw [ne_t]; exact fun q => q he), if_neg (by rw [ne_t]; exact fun q => q he)]
      exact ih (k + 1) (by omega) (by omega)
    · rw [if_pos (by rw [ne_t]; exact he), if_pos (by rw [ne_t]; exact he)]
      exact .inl ⟨e, he, rfl, rfl⟩
theorem lists_same (x y : List Fate_) (hx : x.length ≤ 200) (hy : y.length ≤ 200) : Same (fun _ => True) (link_Check.p10 [x, y] 2 0) ((slices_Concat_link_Fate [x, y]).bind fun r2 => spylaw2_lineFault.p10 r2 (r2.length : Int) 0) := by
  have w1 : IntKind.i64.wrap (0 + 1) = 1 := by decide +kernel
  have w2 : IntKind.i64.wrap (1 + 1) = 2 := by decide +kernel
  have hlen : (x ++ y).length = x.length + y.length := List.length_append
  rw [concat_fates _ _ (by omega), bind_some_]
  have r1 := fates_run (x ++ y) x 0 [x, y] 2 0 (by omega) (by omega) (fun i hi => by rw [Nat.zero_add, List.getD_eq_getElem?_getD, List.getElem?_append_left hi, ← List.getD_eq_getElem?_getD]) _ 0 rfl (by omega)
  have r2 := fates_run (x ++ y) y x.length [x, y] 2 1 (by omega) (by omega) (fun i hi => by rw [List.getD_eq_getElem?_getD, List.getElem?_append_right (by omega), Nat.add_sub_cancel_left, ← List.getD_eq_getElem?_getD]) _ 0 rfl (by omega)
  rw [show ((0 + 0 : Nat) : Int) = 0 from rfl, w1] at r1
  rw [show ((0 : Nat) : Int) = 0 from rfl, w2, Nat.add_zero] at r2
  have p10a : link_Check.p10 [x, y] 2 0 = link_Check.p13 [x, y] 2 0 x x.length 0 := by
    rw [link_Check.p10_eq, if_pos (by decide), if_pos (by decide), if_pos (by show (0 : Int) < 2; decide)]
    rfl
  have p10b : link_Check.p10 [x, y] 2 1 = link_Check.p13 [x, y] 2 1 y y.length 0 := by
    rw [link_Check.p10_eq, if_pos (by decide), if_pos (by decide), if_pos (by show (1 : Int) < 2; decide)]
    rfl
  have p10c : link_Check.p10 [x, y] 2 2 = some 0 := by
    rw [link_Check.p10_eq, if_neg (by decide)]
  have pe : spylaw2_lineFault.p10 (x ++ y) (x ++ y).length ((x.length + y.length : Nat) : Int) = some 0 := by
    rw [spylaw2_lineFault.p10_eq, if_neg (by rw [dt]; omega)]
  rw [p10a]
  rcases r1 with ⟨e, _, k1, k2⟩ | ⟨k1, k2⟩
  · exact ⟨e, k1, k2, trivial⟩
  · rw [k1, k2, Nat.zero_add, p10b]
    rcases r2 with ⟨e, _, k1, k2⟩ | ⟨k1, k2⟩
    · exact ⟨e, k1, k2, trivial⟩
    · exact ⟨0, by rw [k1, p10c], by rw [k2, pe], trivial⟩
theorem line_p4 (x y : List Fate_) (hx : x.length ≤ 200) (hy : y.length ≤ 200) (l : List (Int × Int × Int)) (hl : l.length ≤ 16) : ∀ (u k : Nat), l.length - k = u → k ≤ l.length → Same (fun _ => True) (link_Check.p4 x y l l.length k) (spylaw2_lineFault.p4 x y l l.length k) := by
  intro u
  induction u with
  | zero =>
    intro k h hk
    rw [link_Check.p4_eq, spylaw2_lineFault.p4_eq, if_neg (by rw [dt]; omega), if_neg (by rw [dt]; omega)]
    exact lists_same x y hx hy
  | succ u ih =>
    intro k h hk
    have a : decide ((k : Int) < (l.length : Int)) = true := by rw [dt]; omega
    rw [link_Check.p4_eq, spylaw2_lineFault.p4_eq]
    simp only [if_pos a, if_pos (show (0 : Int) ≤ k by omega), if_pos (show (k : Int) < l.length by omega), toNat_nat, wi_nat (show k < 9223372036854775807 by omega), in_val, bind_some_]
    generalize l.getD k (0, 0, 0) = q
    by_cases c1 : 0 ≤ q.1 ∧ q.1 ≤ 255
    · rw [if_pos (show decide (q.1 < 0) = false by rw [df]; omega), if_pos (show decide (q.1 > 255) = false by rw [df]; omega), if_pos (show (!decide (0 ≤ q.1 ∧ q.1 ≤ 255)) = false by rw [not_f, dt]; exact c1)]
      by_cases c2 : 0 ≤ q.2.2 ∧ q.2.2 ≤ 2000
      · rw [if_pos (show decide (q.2.2 < 0) = false by rw [df]; omega), if_neg (show ¬ decide (q.2.2 > 2000) = true by rw [dt]; omega), if_neg (show ¬ (!decide (0 ≤ q.2.2 ∧ q.2.2 ≤ 2000)) = true by rw [not_t, df]; exact fun z => z c2)]
        exact ih (k + 1) (by omega) (by omega)
      · rw [if_pos (show (!decide (0 ≤ q.2.2 ∧ q.2.2 ≤ 2000)) = true by rw [not_t, df]; exact c2)]
        by_cases c3 : q.2.2 < 0
        · rw [if_neg (show ¬ decide (q.2.2 < 0) = false by rw [df]; exact fun z => z c3)]
          exact .mk _ trivial
        · rw [if_pos (show decide (q.2.2 < 0) = false by rw [df]; exact c3), if_pos (show decide (q.2.2 > 2000) = true by rw [dt]; omega)]
          exact .mk _ trivial
    · rw [if_neg (show ¬ (!decide (0 ≤ q.1 ∧ q.1 ≤ 255)) = false by rw [not_f, dt]; exact c1)]
      by_cases c3 : q.1 < 0
      · rw [if_neg (show ¬ decide (q.1 < 0) = false by rw [df]; exact fun z => z c3)]
        exact .mk _ trivial
      · rw [if_pos (show decide (q.1 < 0) = false by rw [df]; exact c3), if_neg (show ¬ decide (q.1 > 255) = false by rw [df]; omega)]
        exact .mk _ trivial
theorem line_same (l : List (Int × Int × Int)) (x y : List Fate_) : Same (fun _ => True) (link_Check l x y) (spylaw2_lineFault l x y) := by
  rw [link_Check_eq, spylaw2_lineFault_eq]
  refine .ite Iff.rfl (fun h1 => .ite Iff.rfl (fun h2 => .ite Iff.rfl (fun _ => .mk _ trivial) (fun h3 => ?_)) (fun _ => .mk _ trivial)) (fun _ => .mk _ trivial)
  rw [df] at h1 h2
  rw [dt] at h3
  exact line_p4 x y (by omega) (by omega) l (by omega) _ 0 rfl (by omega)
/-! Messages and the packets that carry them. -/
abbrev Msg : Type := Int × Int × Int × Int × Bool
abbrev Prc : Type := Int × List Int
inductive All2 {α β : Type} (R : α → β → Prop) : List α → List β → Prop where
  | nil : All2 R [] []
  | cons {a : α} {b : β} {xs : List α} {ys : List β} : R a b → All2 R xs ys → All2 R (a :: xs) (b :: ys)
theorem All2.app {α β : Type} {R : α → β → Prop} {xs : List α} {ys : List β} (h : All2 R xs ys) {cs : List α} {ds : List β} (k : All2 R cs ds) : All2 R (xs ++ cs) (ys ++ ds) := by
  induction h with
  | nil => exact k
  | cons a _ ih => exact .cons a ih
theorem All2.len {α β : Type} {R : α → β → Prop} {xs : List α} {ys : List β} (h : All2 R xs ys) : xs.length = ys.length := by
  induction h with
  | nil => rfl
  | cons _ _ ih => rw [List.length_cons, List.length_cons, ih]
/-- A parcel that carries a message. -/
def Car (x : Prc) (m : Msg) : Prop := x.1 = m.1 ∧ ∃ b, x.2 = frameL b ∧ b ≠ [] ∧ (∀ y, y ∈ b → Byte y) ∧ b.length ≤ 21 ∧ (m.2.2.2.2 = true → (parseR b).2 ≠ 0) ∧ (m.2.2.2.2 = false → ∃ dt, parseR b = ((0, m.2.1, m.2.2.1, dt), 0) ∧ (m.2.1 = 1 → link_due (0, m.2.1, m.2.2.1, dt) = some m.2.2.2.1))
/-- A packet that a message is. -/
def PkR (p : Pk) (m : Msg) : Prop := p.2.1 = m.2.1 ∧ p.2.2.1 = m.2.2.1 ∧ (m.2.1 = 1 → link_due p = some m.2.2.2.1)
def WayR (t : Int) (way : List Prc) (ms : List Msg) : Prop := All2 Car way (ms.filter fun m => decide (t ≤ m.1))
def atT (t : Int) (m : Msg) : Bool := decide (m.1 = t) && !m.2.2.2.2
theorem take_p4 (t : Int) (way : List Prc) (hl : way.length ≤ 100000000) (hb : ∀ x, x ∈ way → x.2.length ≤ 100) (l : List Fate_ × List Prc × Int) : ∀ (u k : Nat), way.length - k = u → k ≤ way.length → ∀ (acc : List Int) (rest : List Prc), acc.length ≤ 100 * k → rest.length ≤ k →
    link_line_take.p4 t way way.length k acc rest l = (bus_Decode (acc ++ ((way.drop k).filter fun x => decide (x.1 = t)).flatMap (·.2))).bind fun r => some (r.1, l.1, rest ++ (way.drop k).filter (fun x => decide (x.1 ≠ t)), l.2.2) := by
  intro u
  induction u with
  | zero =>
    intro k hu hk acc rest h1 h2
    rw [link_line_take.p4_eq, if_neg (by rw [dt]; omega), List.drop_eq_nil_of_le (by omega)]
    simp
  | succ u ih =>
    intro k hu hk acc rest h1 h2
    have hlt : k < way.length := by omega
    have hx := hb way[k] (List.getElem_mem hlt)
    rw [link_line_take.p4_eq, if_pos (by rw [dt]; omega), if_pos (by omega), if_pos (by omega), toNat_nat, getD_nat _ _ hlt, wi_nat (by omega), List.drop_eq_getElem_cons hlt]
    by_cases c : way[k].1 = t
    · rw [if_pos (by rw [eq_t]; exact c), if_pos (by omega), ih (k + 1) (by omega) (by omega) _ _ (by rw [List.length_append]; omega) (by omega), List.filter_cons_of_pos (by simpa using c), List.filter_cons_of_neg (by simpa using c), List.flatMap_cons, List.append_assoc]
    · rw [if_neg (by rw [eq_t]; exact c), if_pos (by omega), ih (k + 1) (by omega) (by omega) _ _ (by omega) (by rw [List.length_append]; simp; omega), List.filter_cons_of_neg (by simpa using c), List.filter_cons_of_pos (by simpa using c), List.append_assoc]
      rfl
theorem way_split (t : Int) : ∀ {way : List Prc} {ms : List Msg}, All2 Car way ms → (∀ m, m ∈ ms → t ≤ m.1) →
    ∃ bs : List (List Int), (∀ b, b ∈ bs → b ≠ [] ∧ (∀ x, x ∈ b → Byte x) ∧ b.length ≤ 21) ∧ bs.length ≤ way.length ∧ (way.filter fun x => decide (x.1 = t)).flatMap (·.2) = bs.flatMap frameL ∧ All2 PkR (bs.flatMap okP) (ms.filter (atT t)) ∧ All2 Car (way.filter fun x => decide (x.1 ≠ t)) (ms.filter fun m => decide (t + 1 ≤ m.1)) := by
  intro way ms h
  induction h with
  | nil => exact fun _ => ⟨[], (fun b h => by cases h), Nat.le_refl _, rfl, .nil, .nil⟩
  | @cons x m way ms hc _ ih =>
    intro hm
    obtain ⟨bs, k1, k2, k3, k4, k5⟩ := ih fun y hy => hm y (List.mem_cons_of_mem _ hy)
    have h0 := hm m List.mem_cons_self
    obtain ⟨e1, b, e2, e3, e4, e5, e6, e7⟩ := hc
    by_cases c : m.1 = t
    · have cx : x.1 = t := e1.trans c
      refine ⟨b :: bs, ?_, by rw [List.length_cons, List.length_cons]; omega, ?_, ?_, ?_⟩
      · intro y hy
        rcases List.mem_cons.1 hy with rfl | q
        · exact ⟨e3, e4, e5⟩
        · exact k1 y q
      · rw [List.filter_cons_of_pos (by simpa using cx), List.flatMap_cons, List.flatMap_cons, k3, e2]
      · rw [List.flatMap_cons]
        by_cases sp : m.2.2.2.2 = true
        · rw [List.filter_cons_of_neg (by simp [atT, sp])]
          unfold okP
          rw [if_neg (e6 sp)]
          exact k4
        · have sp' : m.2.2.2.2 = false := by simpa using sp
          rw [List.filter_cons_of_pos (by simp [atT, sp', c])]
          obtain ⟨d, d1, d2⟩ := e7 sp'
          have : okP b = [(0, m.2.1, m.2.2.1, d)] := by
            unfold okP
            rw [d1]
            rfl
          rw [this]
          exact .cons ⟨rfl, rfl, d2⟩ k4
      · rw [List.filter_cons_of_neg (by simpa using cx), List.filter_cons_of_neg (by simp; omega)]
        exact k5
    · have cx : ¬ x.1 = t := fun q => c (e1.symm.trans q)
      refine ⟨bs, k1, by rw [List.length_cons]; omega, ?_, ?_, ?_⟩
      · rw [List.filter_cons_of_neg (by simpa using cx)]
        exact k3
      · rw [List.filter_cons_of_neg (by simp [atT, c])]
        exact k4
      · rw [List.filter_cons_of_pos (by simpa using cx), List.filter_cons_of_pos (by simp; omega)]
        exact .cons ⟨e1, b, e2, e3, e4, e5, e6, e7⟩ k5
theorem car_len {x : Prc} {m : Msg} (h : Car x m) : x.2.length ≤ 100 := by
  obtain ⟨_, b, e2, _, _, e5, _⟩ := h
  have := stuffM_len b
  rw [e2, frameL, stuffL_M, List.length_append, List.length_append]
  simp only [List.length_singleton]
  omega
theorem all_car_len {way : List Prc} {ms : List Msg} (h : All2 Car way ms) : ∀ x, x ∈ way → x.2.length ≤ 100 := by
  induction h with
  | nil => exact fun x h => by cases h
  | cons a _ ih =>
    intro x hx
    rcases List.mem_cons.1 hx with rfl | q
    · exact car_len a
    · exact ih x q
theorem take_val (t : Int) (fs : List Fate_) (cnt : Int) {way : List Prc} {ms : List Msg} (h : WayR t way ms) (hl : way.length ≤ 100000000) : ∃ pks way', link_line_take (fs, way, cnt) t = some (pks, fs, way', cnt) ∧ WayR (t + 1) way' ms ∧ All2 PkR pks (ms.filter (atT t)) := by
  obtain ⟨bs, k1, k2, k3, k4, k5⟩ := way_split t h (fun m hm => by have := (List.mem_filter.1 hm).2; simpa using this)
  obtain ⟨bd, hd⟩ := decode_frames bs k1 (by omega)
  have h4 := take_p4 t way hl (all_car_len h) (fs, way, cnt) _ 0 rfl (by omega) [] [] (by simp) (by simp)
  rw [List.drop_zero, List.nil_append, List.nil_append, k3, hd] at h4
  refine ⟨_, _, by rw [link_line_take_eq]; exact h4, ?_, ?_⟩
  · have : (ms.filter fun m => decide (t ≤ m.1)).filter (fun m => decide (t + 1 ≤ m.1)) = ms.filter fun m => decide (t + 1 ≤ m.1) := by
      rw [List.filter_filter]
      congr 1
      funext m
      by_cases c : t + 1 ≤ m.1
      · simp [c, show t ≤ m.1 by omega]
      · simp [c]
    rw [this] at k5
    exact k5
  · have : (ms.filter fun m => decide (t ≤ m.1)).filter (atT t) = ms.filter (atT t) := by
      rw [List.filter_filter]
      congr 1
      funext m
      unfold atT
      by_cases c : m.1 = t
      · simp [c]
      · simp [c]
    rw [this] at k4
    exact k4
/-! Sending. -/
structure FateOk (f : Fate_) : Prop where
  d : 1 ≤ f.2.1 ∧ f.2.1 ≤ 8
  w : 0 ≤ f.2.2.1 ∧ f.2.2.1 ≤ 8
  n : f.2.2.2.length ≤ 3
  p : ∀ i, i ∈ f.2.2.2 → 0 ≤ i
  u : f.2.2.2.Nodup
  q : ∀ i, i ∈ f.2.2.2 → i ≤ 9223372036854775807
def FOk (f : Fate_) : Prop := f.1 = false → FateOk f
def fateAt (fs : List Fate_) (cnt : Int) : Fate_ := if cnt < (fs.length : Int) then fs.getD cnt.toNat (false, 0, 0, []) else (false, 1, 0, [])
def spoilt (f : Fate_) (n : Nat) : Bool := f.2.2.2.any fun i => decide (i < 8 * (n : Int))
/-- The messages that come of one that is sent. -/
def newM (f : Fate_) (t k s d : Int) (n : Nat) : List Msg := if f.1 = true then [] else (t + f.2.1, k, s, d, spoilt f n) :: (if f.2.2.1 > 0 then [(t + f.2.2.1, k, s, d, spoilt f n)] else [])
def newP (f : Fate_) (t : Int) (b : List Int) : List Prc := if f.1 = true then [] else (t + f.2.1, b) :: (if f.2.2.1 > 0 then [(t + f.2.2.1, b)] else [])
theorem plain_ok : FOk (false, 1, 0, []) := fun _ => ⟨⟨by decide, by decide⟩, ⟨by decide, by decide⟩, by decide, (fun i h => by cases h), by simp, (fun i h => by cases h)⟩
theorem fateAt_ok {fs : List Fate_} (h : ∀ f, f ∈ fs → FOk f) {cnt : Int} (h0 : 0 ≤ cnt) : FOk (fateAt fs cnt) := by
  unfold fateAt
  split
  · have hlt : cnt.toNat < fs.length := by omega
    rw [getD_nat _ _ hlt]
    exact h _ (List.getElem_mem hlt)
  · exact plain_ok
theorem send_val (t : Int) (ht : 0 ≤ t ∧ t ≤ 2000) {fs : List Fate_} (hf : ∀ f, f ∈ fs → FOk f) {cnt : Int} (hc : 0 ≤ cnt ∧ cnt ≤ 100000000) (way : List Prc) (hw : way.length ≤ 100000000) (p : Pk) (hp : pfault p = 0) (hd : ∀ x, x ∈ p.2.2.2 → 0 ≤ x ∧ x ≤ 255) :
    link_line_send (fs, way, cnt) p t = some ((), fs, way ++ newP (fateAt fs cnt) t (frameL ((fateAt fs cnt).2.2.2.foldl flip1 (bodyL p))), cnt + 1) := by
  have fo := fateAt_ok hf hc.1
  have p4 : ∀ f : Fate_, FOk f → link_line_send.p4 t p f fs cnt way = some ((), fs, way ++ newP f t (frameL (f.2.2.2.foldl flip1 (bodyL p))), cnt + 1) := by
    intro f fk
    rw [link_line_send.p4_eq, wi (x := cnt + 1) (by omega) (by omega)]
    unfold newP
    by_cases c : f.1 = true
    · rw [if_pos c, if_pos c, List.append_nil]
    · obtain ⟨f1, f2, f3, f4, f5, f6⟩ := fk (by simpa using c)
      have hbody := bus_body p hd
      rw [if_pos hp] at hbody
      rw [if_neg c, if_neg c, bus_Noise_eq, hbody, bind_some_, if_neg (show ¬ ((0 : Int) != 0) = true by decide)]
      have hlen := body_len p
      have h16 := (fault_0 hp).2
      have hno := noise_all f.2.2.2 (by omega) f6 f.2.2.2.length 0 (bodyL p) (by omega) (by omega)
      rw [List.drop_zero, show ((0 : Nat) : Int) = 0 from rfl] at hno
      rw [hno, bind_some_, if_pos (by omega), wi (x := t + f.2.1) (by omega) (by omega), wi (x := t + f.2.2.1) (by omega) (by omega)]
      by_cases c2 : f.2.2.1 > 0
      · rw [if_pos (by rw [dt]; exact c2), if_pos (by rw [List.length_append]; simp; omega), if_pos c2, List.append_assoc]
        rfl
      · rw [if_neg (by rw [dt]; exact c2), if_neg c2]
        rfl
  rw [link_line_send_eq]
  simp only
  unfold fateAt at fo ⊢
  by_cases c : cnt < (fs.length : Int)
  · rw [if_pos c] at fo ⊢
    rw [if_pos (by rw [dt]; exact c), if_pos hc.1, if_pos c]
    exact p4 _ fo
  · rw [if_neg c] at fo ⊢
    rw [if_neg (by rw [dt]; exact c), if_neg c]
    exact p4 _ fo

end Go.Proofs.Ytbaekdcacmoniaa.Pure
