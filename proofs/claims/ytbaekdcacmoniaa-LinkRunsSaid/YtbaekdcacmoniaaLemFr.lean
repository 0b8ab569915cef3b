/- Frames in a stream. -/
import Derived.Test.YtbaekdcacmoniaaEA0
import Derived.Test.YtbaekdcacmoniaaEA1
import Derived.Test.YtbaekdcacmoniaaEA2
import Derived.Test.YtbaekdcacmoniaaPl
import Derived.Test.YtbaekdcacmoniaaLemBus
import Derived.Test.YtbaekdcacmoniaaLemCrc
namespace Go.Proofs.Ytbaekdcacmoniaa.Pure
set_option linter.unusedVariables false
set_option linter.unusedSimpArgs false
open Go Go.RowKit Go.Proofs.Ytbaekdcacmoniaa.Pv Go.Proofs.Ytbaekdcacmoniaa.Pl Go.Proofs.Ytbaekdcacmoniaa.EA

/-! A stream's packets. -/
abbrev Pk : Type := Int × Int × Int × List Int
abbrev Rd : Type := List Int × Bool × Bool × Bool × Int
abbrev Ds : Type := List Int × Bool × Bool
def Byte (x : Int) : Prop := 0 ≤ x ∧ x ≤ 255
def xo (x : Int) : Int := IntKind.u8.wrap (bitop .xor .u8 x 32)
theorem xo_fin : ∀ a : Fin 256, (IntKind.u8.wrap (bitop .xor .u8 (a.val : Int) 32) = 126 ↔ a.val = 94) ∧ (IntKind.u8.wrap (bitop .xor .u8 (a.val : Int) 32) = 125 ↔ a.val = 93) := by decide +kernel
theorem xo_val {x : Int} (h : Byte x) : (xo x = 126 ↔ x = 94) ∧ (xo x = 125 ↔ x = 93) := by
  obtain ⟨n, rfl⟩ := Int.eq_ofNat_of_zero_le h.1
  have hn : n < 256 := by have := h.2; omega
  have := xo_fin ⟨n, hn⟩
  simp only at this
  exact ⟨this.1.trans (by omega), this.2.trans (by omega)⟩
theorem xo_byte (x : Int) : Byte (xo x) := by
  unfold xo Byte
  rw [IntKind.wrap_u8]
  omega
/-! Frames: with a limit, as the reader takes them; without, as the reference does. -/
def putd (d : Ds) (x : Int) : Ds := if d.1.length = 21 then (d.1, d.2.1, true) else (d.1 ++ [x], d.2)
def dstep (d : Ds) (x : Int) : Ds := if d.2.2 = true then d else if d.2.1 = true then (if x = 94 ∨ x = 93 then putd (d.1, false, d.2.2) (xo x) else (d.1, false, true)) else if x = 125 then (d.1, true, d.2.2) else putd d x
def pstep (d : Ds) (x : Int) : Ds := if d.2.2 = true then d else if d.2.1 = true then (if x = 94 ∨ x = 93 then (d.1 ++ [xo x], false, false) else (d.1, false, true)) else if x = 125 then (d.1, true, false) else (d.1 ++ [x], false, false)
def d0 : Ds := ([], false, false)
def D (f : List Int) : Ds := f.foldl dstep d0
def P (f : List Int) : Ds := f.foldl pstep d0
theorem D_snoc (f : List Int) (x : Int) : D (f ++ [x]) = dstep (D f) x := by simp [D]
theorem P_snoc (f : List Int) (x : Int) : P (f ++ [x]) = pstep (P f) x := by simp [P]
def J (p d : Ds) : Prop := (d.2.2 = true ∧ (p.2.2 = true ∨ 21 < p.1.length)) ∨ (d = p ∧ p.1.length ≤ 21 ∧ p.2.2 = false)
theorem J_step {p d : Ds} (h : J p d) (x : Int) : J (pstep p x) (dstep d x) := by
  rcases h with ⟨h1, h2⟩ | ⟨rfl, h1, h2⟩
  · refine .inl ⟨by rw [dstep, if_pos h1]; exact h1, ?_⟩
    rcases h2 with h2 | h2
    · exact .inl (by rw [pstep, if_pos h2]; exact h2)
    · unfold pstep
      split
      · exact .inr h2
      · split
        · split
          · exact .inr (by simp; omega)
          · exact .inl rfl
        · split
          · exact .inr h2
          · exact .inr (by simp; omega)
  · obtain ⟨b, e, k⟩ := d
    simp only at h1 h2
    subst h2
    have hput : ∀ e' y, J (b ++ [y], e', false) (putd (b, e', false) y) := by
      intro e' y
      unfold putd
      by_cases c : b.length = 21
      · rw [if_pos c]
        exact .inl ⟨rfl, .inr (by simp; omega)⟩
      · rw [if_neg c]
        exact .inr ⟨rfl, by simp; omega, rfl⟩
    cases e with
    | true =>
      by_cases c : x = 94 ∨ x = 93
      · simp only [pstep, dstep, Bool.false_eq_true, if_false, if_true, if_pos c]
        exact hput _ _
      · simp only [pstep, dstep, Bool.false_eq_true, if_false, if_true, if_neg c]
        exact .inl ⟨rfl, .inl rfl⟩
    | false =>
      by_cases c : x = 125
      · simp only [pstep, dstep, Bool.false_eq_true, if_false, if_pos c]
        exact .inr ⟨rfl, h1, rfl⟩
      · simp only [pstep, dstep, Bool.false_eq_true, if_false, if_neg c]
        exact hput _ _
theorem J_all (f : List Int) : J (P f) (D f) := by
  have main : ∀ (f : List Int) (p d : Ds), J p d → J (f.foldl pstep p) (f.foldl dstep d) := by
    intro f
    induction f with
    | nil => intro p d h; exact h
    | cons x f ih => intro p d h; exact ih _ _ (J_step h x)
  exact main f d0 d0 (.inr ⟨rfl, by decide, rfl⟩)
theorem d_ok (f : List Int) (hf : ∀ x, x ∈ f → Byte x) : (D f).1.length ≤ 21 ∧ ∀ y, y ∈ (D f).1 → Byte y := by
  have main : ∀ (f : List Int) (d : Ds), (∀ x, x ∈ f → Byte x) → (d.1.length ≤ 21 ∧ ∀ y, y ∈ d.1 → Byte y) → ((f.foldl dstep d).1.length ≤ 21 ∧ ∀ y, y ∈ (f.foldl dstep d).1 → Byte y) := by
    intro f
    induction f with
    | nil => intro d _ h; exact h
    | cons x f ih =>
      intro d hx h
      refine ih _ (fun y hy => hx y (List.mem_cons_of_mem _ hy)) ?_
      have hput : ∀ (e k : Bool) y, Byte y → ((putd (d.1, e, k) y).1.length ≤ 21 ∧ ∀ z, z ∈ (putd (d.1, e, k) y).1 → Byte z) := by
        intro e k y hy
        unfold putd
        split
        · exact h
        · rename_i c
          refine ⟨by simp at c ⊢; omega, fun z hz => ?_⟩
          rcases List.mem_append.1 hz with q | q
          · exact h.2 z q
          · rw [List.mem_singleton.1 q]; exact hy
      unfold dstep
      split
      · exact h
      · split
        · split
          · exact hput _ _ _ (xo_byte x)
          · exact h
        · split
          · exact h
          · exact hput _ _ _ (hx x (List.mem_cons_self ..))
  exact main f d0 hf ⟨by decide, fun y hy => by cases hy⟩
theorem p_ok (f : List Int) (hf : ∀ x, x ∈ f → Byte x) : (P f).1.length ≤ f.length ∧ ∀ y, y ∈ (P f).1 → Byte y := by
  have main : ∀ (f : List Int) (d : Ds) (n : Nat), (∀ x, x ∈ f → Byte x) → (d.1.length ≤ n ∧ ∀ y, y ∈ d.1 → Byte y) → ((f.foldl pstep d).1.length ≤ n + f.length ∧ ∀ y, y ∈ (f.foldl pstep d).1 → Byte y) := by
    intro f
    induction f with
    | nil => intro d n _ h; exact h
    | cons x f ih =>
      intro d n hx h
      have hput : ∀ y, Byte y → ((d.1 ++ [y]).length ≤ n + 1 ∧ ∀ z, z ∈ d.1 ++ [y] → Byte z) := by
        intro y hy
        refine ⟨by simp; exact h.1, fun z hz => ?_⟩
        rcases List.mem_append.1 hz with q | q
        · exact h.2 z q
        · rw [List.mem_singleton.1 q]; exact hy
      have h' : d.1.length ≤ n + 1 ∧ ∀ y, y ∈ d.1 → Byte y := ⟨by omega, h.2⟩
      have := ih (pstep d x) (n + 1) (fun y hy => hx y (List.mem_cons_of_mem _ hy)) (by
        unfold pstep
        split
        · exact h'
        · split
          · split
            · exact hput _ (xo_byte x)
            · exact h'
          · split
            · exact h'
            · exact hput _ (hx x (List.mem_cons_self ..)))
      refine ⟨by rw [List.foldl_cons, List.length_cons]; omega, this.2⟩
  have := main f d0 0 hf ⟨by decide, fun y hy => by cases hy⟩
  exact ⟨by have := this.1; rw [Nat.zero_add] at this; exact this, this.2⟩
theorem p_ne (f : List Int) (x : Int) : (P (f ++ [x])).1 ≠ [] ∨ (P (f ++ [x])).2.1 = true ∨ (P (f ++ [x])).2.2 = true := by
  rw [P_snoc]
  unfold pstep
  split
  · rename_i h; exact .inr (.inr h)
  · split
    · split
      · exact .inl (by simp)
      · exact .inr (.inr rfl)
    · split
      · exact .inr (.inl rfl)
      · exact .inl (by simp)
/-! The reference's frame. -/
def finP (p : Ds) : List Int × Bool := if p.2.1 = true ∨ p.2.2 = true then ([], false) else (p.1, true)
theorem fold_bad (b : List Int) (e : Bool) : ∀ l : List Int, l.foldl pstep (b, e, true) = (b, e, true)
  | [] => rfl
  | x :: l => by
    rw [List.foldl_cons, show pstep (b, e, true) x = (b, e, true) from if_pos rfl]
    exact fold_bad b e l
/-- What a frame gives. -/
def resF (f : List Int) : Option Pk := if (finP (P f)).2 = true ∧ (parseR (finP (P f)).1).2 = 0 then some (parseR (finP (P f)).1).1 else none
/-! A stream, byte by byte. -/
structure G where
  out : List Pk
  bad : Int
  fr : Option (List Int)
def gflag (g : G) : G :=
  match g.fr with
  | none => ⟨g.out, g.bad, some []⟩
  | some [] => ⟨g.out, g.bad, some []⟩
  | some (x :: f) => match resF (x :: f) with | some p => ⟨g.out ++ [p], g.bad, some []⟩ | none => ⟨g.out, g.bad + 1, some []⟩
def gstep (g : G) (x : Int) : G := if x = 126 then gflag g else ⟨g.out, g.bad, g.fr.map (· ++ [x])⟩
def g0 : G := ⟨[], 0, none⟩
def Gs (s : List Int) : G := s.foldl gstep g0
theorem Gs_take (s : List Int) {k : Nat} (h : k < s.length) : Gs (s.take (k + 1)) = gstep (Gs (s.take k)) s[k] := by
  rw [List.take_succ_eq_append_getElem h, Gs, List.foldl_append]
  rfl
theorem g_small (s : List Int) (hs : ∀ x, x ∈ s → Byte x) : ∀ k, k ≤ s.length → (Gs (s.take k)).out.length ≤ k ∧ 0 ≤ (Gs (s.take k)).bad ∧ (Gs (s.take k)).bad ≤ k ∧ ∀ f, (Gs (s.take k)).fr = some f → f.length ≤ k ∧ ∀ x, x ∈ f → Byte x := by
  intro k
  induction k with
  | zero => intro _; exact ⟨by simp [Gs, g0], by simp [Gs, g0], by simp [Gs, g0], fun f h => by simp [Gs, g0] at h⟩
  | succ k ih =>
    intro hk
    have hlt : k < s.length := by omega
    obtain ⟨h1, h2, h3, h4⟩ := ih (by omega)
    rw [Gs_take s hlt]
    generalize Gs (s.take k) = g at *
    have hb := hs s[k] (List.getElem_mem ..)
    unfold gstep
    split
    · unfold gflag
      split
      · exact ⟨by simp; omega, by simp; omega, by simp; omega, fun f h => by simp at h; subst h; exact ⟨by simp, fun x hx => by cases hx⟩⟩
      · exact ⟨by simp; omega, by simp; omega, by simp; omega, fun f h => by simp at h; subst h; exact ⟨by simp, fun x hx => by cases hx⟩⟩
      · split
        · exact ⟨by simp; omega, by simp; omega, by simp; omega, fun f h => by simp at h; subst h; exact ⟨by simp, fun x hx => by cases hx⟩⟩
        · exact ⟨by simp; omega, by simp; omega, by simp; omega, fun f h => by simp at h; subst h; exact ⟨by simp, fun x hx => by cases hx⟩⟩
    · refine ⟨by simp; omega, by simp; omega, by simp; omega, fun f h => ?_⟩
      simp only [Option.map_eq_some_iff] at h
      obtain ⟨f0, e, rfl⟩ := h
      obtain ⟨q1, q2⟩ := h4 f0 e
      refine ⟨by simp; omega, fun x hx => ?_⟩
      rcases List.mem_append.1 hx with q | q
      · exact q2 x q
      · rw [List.mem_singleton.1 q]; exact hb
/-! The reader. -/
def Rel (r : Rd) (g : G) : Prop :=
  match g.fr with
  | none => r = ([], false, false, false, g.bad)
  | some f => r = ((D f).1, (D f).2.1, (D f).2.2, true, g.bad)
theorem put_val (r : Rd) (x : Int) (h : r.1.length ≤ 21) : bus_Reader_put r x = some ((), (putd (r.1, r.2.1, r.2.2.1) x).1, (putd (r.1, r.2.1, r.2.2.1) x).2.1, (putd (r.1, r.2.1, r.2.2.1) x).2.2, r.2.2.2) := by
  rw [bus_Reader_put_eq]
  unfold putd
  by_cases c : r.1.length = 21
  · rw [if_pos (by rw [eq_t]; omega), if_pos c]
  · rw [if_neg (by rw [eq_t]; omega), if_neg c, if_pos (by omega)]
theorem feed_byte (b : List Int) (e k : Bool) (bad x : Int) (hl : b.length ≤ 21) (hx : Byte x) (hn : x ≠ 126) : bus_Reader_Feed (b, e, k, true, bad) x = some (((0, 0, 0, []), false), (dstep (b, e, k) x).1, (dstep (b, e, k) x).2.1, (dstep (b, e, k) x).2.2, true, bad) := by
  obtain ⟨x1, x2⟩ := xo_val hx
  rw [bus_Reader_Feed_eq, if_neg (by rw [eq_t]; exact hn)]
  show (if k = false then (if (!true) = true then _ else _) else _) = _
  cases k with
  | true =>
    rw [if_neg (by decide)]
    rfl
  | false =>
    rw [if_pos rfl, if_neg (by decide)]
    cases e with
    | true =>
      simp only [show IntKind.u8.wrap (bitop .xor .u8 x 32) = xo x from rfl, if_true]
      rw [put_val _ _ hl]
      simp only [dstep, Bool.false_eq_true, if_false, if_true]
      by_cases c1 : x = 94
      · rw [if_neg (by rw [eq_f]; exact fun q => q (x1.2 c1)), if_pos (.inl c1)]
        rfl
      · rw [if_pos (by rw [eq_f]; exact fun q => c1 (x1.1 q))]
        by_cases c2 : x = 93
        · rw [if_pos (show (xo x == 125) = true by rw [eq_t]; exact x2.2 c2), if_pos (.inr c2)]
          rfl
        · rw [if_neg (show ¬ (xo x == 125) = true by rw [eq_t]; exact fun q => c2 (x2.1 q)), if_neg (by omega)]
    | false =>
      rw [if_neg (by simp), put_val _ _ hl]
      simp only [dstep, Bool.false_eq_true, if_false]
      by_cases c : x = 125
      · rw [if_pos (by rw [eq_t]; exact c), if_pos c]
      · rw [if_neg (by rw [eq_t]; exact c), if_neg c]
        rfl
theorem flag_val (b : List Int) (e k o : Bool) (bad : Int) (hb : ∀ x, x ∈ b → Byte x) (h0 : 0 ≤ bad) (h1 : bad ≤ 1099511627776) : bus_Reader_Feed (b, e, k, o, bad) 126 = some (if b = [] ∧ e = false ∧ k = false then (((0, 0, 0, []), false), [], false, false, true, bad) else if e = false ∧ k = false ∧ (parseR b).2 = 0 then (((parseR b).1, true), [], false, false, true, bad) else (((0, 0, 0, []), false), [], false, false, true, bad + 1)) := by
  have p5 : ∀ (B : Bool), (B = true ↔ ¬ (e = false ∧ k = false)) → bus_Reader_flag.p5 b B (0, 0, 0, []) false false true bad [] = some (if e = false ∧ k = false ∧ (parseR b).2 = 0 then (((parseR b).1, true), [], false, false, true, bad) else (((0, 0, 0, []), false), [], false, false, true, bad + 1)) := by
    intro B hB
    rw [bus_Reader_flag.p5_eq, bus_parse b hb, bind_some_]
    simp only [wi (x := bad + 1) (by omega) (by omega)]
    cases B with
    | true =>
      rw [if_neg (by decide), if_neg (fun q => (hB.1 rfl) ⟨q.1, q.2.1⟩)]
    | false =>
      have hek : e = false ∧ k = false := Classical.byContradiction fun q => by have := hB.2 q; cases this
      rw [if_pos rfl]
      by_cases c : (parseR b).2 = 0
      · rw [if_neg (by rw [ne_t]; exact fun q => q c), if_pos ⟨hek.1, hek.2, c⟩]
      · rw [if_pos (by rw [ne_t]; exact c), if_neg (fun q => c q.2.2)]
  have p2 : ∀ (B : Bool), (B = true ↔ ¬ (e = false ∧ k = false)) → bus_Reader_flag.p2 b B ((b.length : Int) == 0) (0, 0, 0, []) (b, e, k, o, bad) = some (if b = [] ∧ e = false ∧ k = false then (((0, 0, 0, []), false), [], false, false, true, bad) else if e = false ∧ k = false ∧ (parseR b).2 = 0 then (((parseR b).1, true), [], false, false, true, bad) else (((0, 0, 0, []), false), [], false, false, true, bad + 1)) := by
    intro B hB
    rw [bus_Reader_flag.p2_eq, p5 B hB]
    by_cases c : b = []
    · rw [if_pos (by rw [eq_t, c]; rfl)]
      cases B with
      | true =>
        rw [if_neg (by decide), if_neg (show ¬ (b = [] ∧ e = false ∧ k = false) from fun q => (hB.1 rfl) q.2)]
      | false =>
        have hek : e = false ∧ k = false := Classical.byContradiction fun q => by have := hB.2 q; cases this
        rw [if_pos (by decide), if_pos ⟨c, hek⟩]
    · rw [if_neg (by rw [eq_t]; intro q; exact c (List.eq_nil_of_length_eq_zero (by omega))), if_neg (show ¬ (b = [] ∧ e = false ∧ k = false) from fun q => c q.1)]
  rw [bus_Reader_Feed_eq, if_pos (by decide), bind_id, bus_Reader_flag_eq]
  cases k with
  | false =>
    rw [if_pos rfl]
    exact p2 e (by cases e <;> simp)
  | true =>
    rw [if_neg (by simp)]
    exact p2 true (by simp)
theorem long_bad {b : List Int} (h : 21 < b.length) : (parseR b).2 = 2 := by
  unfold parseR
  rw [if_neg (by omega), if_pos (by omega)]
theorem feed_all (r : Rd) (g : G) (x : Int) (hx : Byte x) (h : Rel r g) (h0 : 0 ≤ g.bad) (h1 : g.bad ≤ 1099511627776) (hf : ∀ f, g.fr = some f → ∀ y, y ∈ f → Byte y) : ∃ o r', bus_Reader_Feed r x = some (o, r') ∧ Rel r' (gstep g x) ∧ ((o.2 = true ∧ (gstep g x).out = g.out ++ [o.1]) ∨ (o.2 = false ∧ (gstep g x).out = g.out ∧ o.1 = (0, 0, 0, []))) := by
  obtain ⟨out, bad, fr⟩ := g
  simp only at h0 h1 hf
  cases fr with
  | none =>
    obtain rfl : r = ([], false, false, false, bad) := h
    by_cases c : x = 126
    · subst c
      rw [flag_val [] false false false bad (fun x hx => by cases hx) h0 h1, if_pos ⟨rfl, rfl, rfl⟩]
      exact ⟨_, _, rfl, rfl, .inr ⟨rfl, rfl, rfl⟩⟩
    · refine ⟨((0, 0, 0, []), false), ([], false, false, false, bad), ?_, ?_, .inr ⟨rfl, by simp [gstep, c], rfl⟩⟩
      · rw [bus_Reader_Feed_eq, if_neg (by rw [eq_t]; exact c)]
        rfl
      · simp [gstep, c, Rel]
  | some f =>
    obtain rfl : r = ((D f).1, (D f).2.1, (D f).2.2, true, bad) := h
    have hby := hf f rfl
    obtain ⟨dl, db⟩ := d_ok f hby
    by_cases c : x = 126
    · subst c
      rw [flag_val _ _ _ _ bad db h0 h1]
      cases f with
      | nil =>
        rw [if_pos ⟨rfl, rfl, rfl⟩]
        exact ⟨_, _, rfl, rfl, .inr ⟨rfl, rfl, rfl⟩⟩
      | cons y f =>
        have hj := J_all (y :: f)
        have hres : (D (y :: f)).2.1 = false ∧ (D (y :: f)).2.2 = false ∧ (parseR (D (y :: f)).1).2 = 0 → resF (y :: f) = some (parseR (D (y :: f)).1).1 := by
          rintro ⟨q1, q2, q3⟩
          rcases hj with ⟨h1, _⟩ | ⟨h1, _, _⟩
          · rw [q2] at h1; cases h1
          · rw [h1] at q1 q2 q3 ⊢
            have e : finP (P (y :: f)) = ((P (y :: f)).1, true) := by rw [finP, if_neg (by rw [q1, q2]; simp)]
            rw [resF, e, if_pos ⟨rfl, q3⟩]
        have hres0 : ¬ ((D (y :: f)).2.1 = false ∧ (D (y :: f)).2.2 = false ∧ (parseR (D (y :: f)).1).2 = 0) → resF (y :: f) = none := by
          intro q
          rw [resF, if_neg]
          rintro ⟨k1, k2⟩
          unfold finP at k1 k2
          split at k1
          · cases k1
          · rename_i hn
            rw [if_neg hn] at k2
            have n1 : (P (y :: f)).2.1 = false := by cases hz : (P (y :: f)).2.1 with | false => rfl | true => exact absurd (.inl hz) hn
            have n2 : (P (y :: f)).2.2 = false := by cases hz : (P (y :: f)).2.2 with | false => rfl | true => exact absurd (.inr hz) hn
            rcases hj with ⟨_, h2⟩ | ⟨h2, _, _⟩
            · rcases h2 with h2 | h2
              · rw [n2] at h2; cases h2
              · have := long_bad h2
                simp only at k2
                omega
            · exact q (by rw [h2]; exact ⟨n1, n2, k2⟩)
        have hne : ¬ ((D (y :: f)).1 = [] ∧ (D (y :: f)).2.1 = false ∧ (D (y :: f)).2.2 = false) := by
          rintro ⟨k1, k2, k3⟩
          rcases hj with ⟨h1, _⟩ | ⟨h1, _, _⟩
          · rw [k3] at h1; cases h1
          · rw [h1] at k1 k2 k3
            obtain ⟨l, z, e⟩ : ∃ l z, y :: f = l ++ [z] := ⟨(y :: f).dropLast, (y :: f).getLast (by simp), (List.dropLast_concat_getLast (by simp)).symm⟩
            have := p_ne l z
            rw [← e, k1, k2, k3] at this
            simp at this
        rw [if_neg hne]
        by_cases q : (D (y :: f)).2.1 = false ∧ (D (y :: f)).2.2 = false ∧ (parseR (D (y :: f)).1).2 = 0
        · rw [if_pos q]
          refine ⟨_, _, rfl, ?_, .inl ⟨rfl, ?_⟩⟩
          · simp [gstep, gflag, hres q, Rel, D, d0]
          · simp [gstep, gflag, hres q]
        · rw [if_neg q]
          refine ⟨_, _, rfl, ?_, .inr ⟨rfl, ?_, rfl⟩⟩
          · simp [gstep, gflag, hres0 q, Rel, D, d0]
          · simp [gstep, gflag, hres0 q]
    · rw [feed_byte _ _ _ bad x dl hx c]
      refine ⟨_, _, rfl, ?_, .inr ⟨rfl, by simp [gstep, c], rfl⟩⟩
      simp only [gstep, if_neg c, Rel, Option.map_some]
      rw [D_snoc]
theorem rel_bad {r : Rd} {g : G} (h : Rel r g) : r.2.2.2.2 = g.bad := by
  unfold Rel at h
  split at h <;> subst h <;> rfl
theorem decode_run (s : List Int) (hs : ∀ x, x ∈ s → Byte x) (hl : s.length ≤ 1099511627776) : ∀ (u k : Nat) (r : Rd), s.length - k = u → k ≤ s.length → Rel r (Gs (s.take k)) → bus_Decode.p4 s s.length k r.2.1 r.2.2.1 r.2.2.2.1 r.2.2.2.2 (Gs (s.take k)).out r.1 = some ((Gs s).out, (Gs s).bad) := by
  intro u
  induction u with
  | zero =>
    intro k r hu hk h
    have e : s.take k = s := List.take_of_length_le (by omega)
    rw [e] at h ⊢
    rw [bus_Decode.p4_eq, if_neg (by rw [dt]; omega), rel_bad h]
  | succ u ih =>
    intro k r hu hk h
    have hlt : k < s.length := by omega
    obtain ⟨q1, q2, q3, q4⟩ := g_small s hs k (by omega)
    obtain ⟨o, r', f1, f2, f3⟩ := feed_all r _ s[k] (hs _ (List.getElem_mem ..)) h q2 (by omega) (fun f hf => (q4 f hf).2)
    rw [← Gs_take s hlt] at f2 f3
    rw [bus_Decode.p4_eq, if_pos (by rw [dt]; omega), if_pos (by omega), if_pos (by omega), toNat_nat, getD_nat _ _ hlt, show bus_Reader_Feed (r.1, r.2.1, r.2.2.1, r.2.2.2.1, r.2.2.2.2) s[k] = some (o, r') from f1, bind_some_, wi_nat (by omega)]
    have n := ih (k + 1) r' (by omega) (by omega) f2
    rcases f3 with ⟨g1, g2⟩ | ⟨g1, g2, _⟩
    · rw [if_pos (show (o, r').1.2 = true from g1), if_pos (by omega), ← g2]
      exact n
    · rw [if_neg (show ¬ (o, r').1.2 = true by rw [show (o, r').1.2 = o.2 from rfl, g1]; decide), ← g2]
      exact n
/-! Frames in a stream. -/
def stuffM : List Int → List Int
  | [] => []
  | x :: r => stf x ++ stuffM r
theorem stuffL_M : ∀ b : List Int, stuffL b = stuffM b ++ [126]
  | [] => rfl
  | x :: r => by rw [stuffL, stuffM, stuffL_M r, List.append_assoc]
theorem stf_no (x : Int) : ∀ y, y ∈ stf x → y ≠ 126 := by
  intro y hy
  unfold stf at hy
  split at hy
  · simp at hy
    omega
  · split at hy
    · simp at hy
      omega
    · simp at hy
      omega
theorem stuffM_no : ∀ (b : List Int) (y : Int), y ∈ stuffM b → y ≠ 126
  | [], y, h => by cases h
  | x :: r, y, h => by
    rw [stuffM] at h
    rcases List.mem_append.1 h with q | q
    · exact stf_no x y q
    · exact stuffM_no r y q
theorem stf_byte {x : Int} (hx : Byte x) : ∀ y, y ∈ stf x → Byte y := by
  intro y hy
  unfold stf at hy
  unfold Byte at hx ⊢
  split at hy
  · simp at hy
    omega
  · split at hy
    · simp at hy
      omega
    · simp at hy
      omega
theorem stuffM_byte : ∀ (b : List Int), (∀ x, x ∈ b → Byte x) → ∀ y, y ∈ stuffM b → Byte y
  | [], _, y, h => by cases h
  | x :: r, hb, y, h => by
    rw [stuffM] at h
    rcases List.mem_append.1 h with q | q
    · exact stf_byte (hb x List.mem_cons_self) y q
    · exact stuffM_byte r (fun z hz => hb z (List.mem_cons_of_mem _ hz)) y q
theorem stuffM_len : ∀ b : List Int, (stuffM b).length ≤ 2 * b.length
  | [] => Nat.le_refl _
  | x :: r => by
    have := stuffM_len r
    rw [stuffM, List.length_append, List.length_cons]
    have h : (stf x).length ≤ 2 := by
      unfold stf
      split
      · exact Nat.le_refl _
      · split
        · exact Nat.le_refl _
        · exact Nat.le_succ _
    omega
theorem xo94 : xo 94 = 126 := by decide +kernel
theorem xo93 : xo 93 = 125 := by decide +kernel
theorem P_run : ∀ (b acc : List Int), (stuffM b).foldl pstep (acc, false, false) = (acc ++ b, false, false)
  | [], acc => by rw [stuffM, List.foldl_nil, List.append_nil]
  | x :: r, acc => by
    have e : (stf x).foldl pstep (acc, false, false) = (acc ++ [x], false, false) := by
      unfold stf
      by_cases h1 : x = 126
      · subst h1
        rw [if_pos rfl]
        simp [pstep, xo94]
      · rw [if_neg h1]
        by_cases h2 : x = 125
        · subst h2
          rw [if_pos rfl]
          simp [pstep, xo93]
        · rw [if_neg h2]
          simp [pstep, h2]
    rw [stuffM, List.foldl_append, e, P_run r, List.append_assoc]
    rfl
theorem P_M (b : List Int) : P (stuffM b) = (b, false, false) := P_run b []
theorem stf_ne (x : Int) : stf x ≠ [] := by
  unfold stf
  split
  · nofun
  · split <;> nofun
theorem M_ne {b : List Int} (h : b ≠ []) : stuffM b ≠ [] := by
  cases b with
  | nil => exact absurd rfl h
  | cons x r =>
    rw [stuffM]
    intro e
    exact stf_ne x (List.append_eq_nil_iff.1 e).1
def okP (b : List Int) : List Pk := if (parseR b).2 = 0 then [(parseR b).1] else []
theorem resF_M (b : List Int) : resF (stuffM b) = if (parseR b).2 = 0 then some (parseR b).1 else none := by
  unfold resF
  rw [P_M]
  simp [finP]
theorem g_run : ∀ (l : List Int), (∀ y, y ∈ l → y ≠ 126) → ∀ (o : List Pk) (bd : Int) (f : List Int), l.foldl gstep ⟨o, bd, some f⟩ = ⟨o, bd, some (f ++ l)⟩
  | [], _, o, bd, f => by rw [List.foldl_nil, List.append_nil]
  | x :: r, h, o, bd, f => by
    have hx := h x List.mem_cons_self
    rw [List.foldl_cons, show gstep ⟨o, bd, some f⟩ x = ⟨o, bd, some (f ++ [x])⟩ by unfold gstep; rw [if_neg hx]; rfl, g_run r (fun y hy => h y (List.mem_cons_of_mem _ hy)), List.append_assoc]
    rfl
def frameL (b : List Int) : List Int := [126] ++ stuffL b
theorem g_frame {b : List Int} (hb : b ≠ []) (o : List Pk) (bd : Int) (fr : Option (List Int)) (hf : fr = none ∨ fr = some []) : ∃ bd', (frameL b).foldl gstep ⟨o, bd, fr⟩ = ⟨o ++ okP b, bd', some []⟩ := by
  have e0 : gstep ⟨o, bd, fr⟩ 126 = ⟨o, bd, some []⟩ := by
    unfold gstep
    rw [if_pos rfl]
    rcases hf with rfl | rfl <;> rfl
  unfold frameL
  rw [List.singleton_append, List.foldl_cons, e0, stuffL_M, List.foldl_append, g_run _ (stuffM_no b), List.nil_append, List.foldl_cons, List.foldl_nil]
  unfold gstep
  rw [if_pos rfl]
  unfold gflag
  have hn := M_ne hb
  have hr := resF_M b
  generalize stuffM b = m at hn hr
  cases m with
  | nil => exact absurd rfl hn
  | cons x f =>
    simp only [hr]
    unfold okP
    by_cases c : (parseR b).2 = 0
    · simp only [if_pos c]
      exact ⟨_, rfl⟩
    · simp only [if_neg c, List.append_nil]
      exact ⟨_, rfl⟩
theorem g_frames : ∀ (bs : List (List Int)), (∀ b, b ∈ bs → b ≠ []) → ∀ (o : List Pk) (bd : Int) (fr : Option (List Int)), (fr = none ∨ fr = some []) → ((bs.flatMap frameL).foldl gstep ⟨o, bd, fr⟩).out = o ++ bs.flatMap okP
  | [], _, o, bd, fr, _ => by simp
  | b :: bs, h, o, bd, fr, hf => by
    obtain ⟨bd', e⟩ := g_frame (h b List.mem_cons_self) o bd fr hf
    rw [List.flatMap_cons, List.foldl_append, e, g_frames bs (fun x hx => h x (List.mem_cons_of_mem _ hx)) _ _ _ (.inr rfl), List.flatMap_cons, List.append_assoc]
theorem decode_val (s : List Int) (hs : ∀ x, x ∈ s → Byte x) (hl : s.length ≤ 1099511627776) : ∃ bd, bus_Decode s = some ((Gs s).out, bd) := by
  refine ⟨(Gs s).bad, ?_⟩
  have := decode_run s hs hl _ 0 ([], false, false, false, 0) rfl (by omega) (by rw [List.take_zero]; rfl)
  rw [bus_Decode_eq]
  exact this
theorem decode_frames (bs : List (List Int)) (h : ∀ b, b ∈ bs → b ≠ [] ∧ (∀ x, x ∈ b → Byte x) ∧ b.length ≤ 21) (hl : bs.length ≤ 1000000000) : ∃ bd, bus_Decode (bs.flatMap frameL) = some (bs.flatMap okP, bd) := by
  have hb : ∀ x, x ∈ bs.flatMap frameL → Byte x := by
    intro x hx
    obtain ⟨b, h1, h2⟩ := List.mem_flatMap.1 hx
    unfold frameL at h2
    rw [stuffL_M] at h2
    rcases List.mem_append.1 h2 with q | q
    · rw [List.mem_singleton.1 q]
      exact ⟨by decide, by decide⟩
    · rcases List.mem_append.1 q with q | q
      · exact stuffM_byte b (h b h1).2.1 x q
      · rw [List.mem_singleton.1 q]
        exact ⟨by decide, by decide⟩
  have hlen : ∀ (l : List (List Int)), (∀ b, b ∈ l → b.length ≤ 21) → (l.flatMap frameL).length ≤ 44 * l.length := by
    intro l
    induction l with
    | nil => intro _; simp
    | cons b l ih =>
      intro q
      have h1 := ih fun x hx => q x (List.mem_cons_of_mem _ hx)
      have h2 := q b List.mem_cons_self
      have h3 := stuffM_len b
      rw [List.flatMap_cons, List.length_append, List.length_cons, frameL, stuffL_M, List.length_append, List.length_append]
      simp only [List.length_singleton]
      omega
  have := hlen bs fun b q => (h b q).2.2
  obtain ⟨bd, e⟩ := decode_val (bs.flatMap frameL) hb (by omega)
  refine ⟨bd, ?_⟩
  rw [e]
  have := g_frames bs (fun b q => (h b q).1) [] 0 none (.inl rfl)
  rw [List.nil_append] at this
  rw [show Gs (bs.flatMap frameL) = (bs.flatMap frameL).foldl gstep ⟨[], 0, none⟩ from rfl, this]
/-! What a body says. -/
theorem parse_body {p : Pk} (h : pok p) (h16 : p.2.2.2.length ≤ 16) (hd : ∀ x, x ∈ p.2.2.2 → 0 ≤ x ∧ x ≤ 255) : parseR (bodyL p) = (p, 0) := by
  have hl := body_len p
  have hh := head_len p
  have hs := sumOf_in (headL p)
  have e1 : (bodyL p).take ((bodyL p).length - 2) = headL p := by
    rw [hl]
    unfold bodyL
    rw [List.take_append_of_le_length (by omega), List.take_of_length_le (by omega)]
  have e2 : (bodyL p).getD ((bodyL p).length - 2) 0 = sumOf (headL p) / 256 := by
    rw [hl]
    unfold bodyL
    rw [List.getD_eq_getElem?_getD, List.getElem?_append_right (by omega), hh, show 5 + p.2.2.2.length - 2 - (3 + p.2.2.2.length) = 0 by omega]
    rfl
  have e3 : (bodyL p).getD ((bodyL p).length - 1) 0 = sumOf (headL p) % 256 := by
    rw [hl]
    unfold bodyL
    rw [List.getD_eq_getElem?_getD, List.getElem?_append_right (by omega), hh, show 5 + p.2.2.2.length - 1 - (3 + p.2.2.2.length) = 1 by omega]
    rfl
  unfold parseR
  rw [if_neg (by omega), if_neg (by omega), e1, e2, e3, if_pos (by omega)]
  obtain ⟨a, k, s, d⟩ := p
  obtain ⟨h1, h2, h3, h4, h5, h6⟩ := h
  simp only at h1 h2 h3 h4 h5 h6
  have f0 : (bodyL (a, k, s, d)).getD 0 0 = 16 * a + k := rfl
  have f1 : (bodyL (a, k, s, d)).getD 1 0 = s / 256 := rfl
  have f2 : (bodyL (a, k, s, d)).getD 2 0 = s % 256 := rfl
  have f3 : (headL (a, k, s, d)).drop 3 = d := rfl
  rw [f0, f1, f2, f3, show (16 * a + k) / 16 = a by omega, show (16 * a + k) % 16 = k by omega, show 256 * (s / 256) + s % 256 = s by omega]
theorem parse_chk {b : List Int} (hb : ∀ x, x ∈ b → 0 ≤ x ∧ x ≤ 255) (h5 : 5 ≤ b.length) (h21 : b.length ≤ 21) : (parseR b).2 = 0 ↔ chk 65535#16 b = 0#16 := by
  have hx := getD_in hb (b.length - 2)
  have hy := getD_in hb (b.length - 1)
  unfold parseR chk sumOf
  rw [if_neg (by omega), if_neg (by omega)]
  generalize b.getD (b.length - 2) 0 = x at hx ⊢
  generalize b.getD (b.length - 1) 0 = y at hy ⊢
  generalize crc (b.take (b.length - 2)) 65535#16 = c
  have ht : (tailV x y).toNat = 256 * x.toNat + y.toNat := by
    unfold tailV
    rw [BitVec.toNat_ofNat]
    omega
  constructor
  · intro h
    split at h
    · rename_i e
      have : c = tailV x y := BitVec.eq_of_toNat_eq (by rw [ht]; omega)
      rw [this, BitVec.xor_self]
    · cases h
  · intro h
    have : c = tailV x y := Classical.byContradiction fun q => xor_ne q h
    rw [if_pos (by rw [this, ht]; omega)]
theorem parse_flips {p : Pk} (h : pok p) (hn : p.2.2.2.length = 0 ∨ p.2.2.2.length = 11) (hd : ∀ x, x ∈ p.2.2.2 → 0 ≤ x ∧ x ≤ 255) (l : List Int) (h3 : l.length ≤ 3) (h0 : ∀ i, i ∈ l → 0 ≤ i) (hnd : l.Nodup) (he : ∃ i, i ∈ l ∧ i < 8 * ((bodyL p).length : Int)) : (parseR (l.foldl flip1 (bodyL p))).2 ≠ 0 := by
  have hl := body_len p
  have hb : ∀ x, x ∈ bodyL p → 0 ≤ x ∧ x ≤ 255 := by
    intro x hx
    have hs := sumOf_in (headL p)
    unfold bodyL at hx
    rcases List.mem_append.1 hx with q | q
    · exact head_bytes h hd x q
    · simp at q
      omega
  intro e
  have hf := flips_len l (bodyL p)
  rw [parse_chk (flips_bytes l _ hb) (by omega) (by omega), chk_flips l _ h0 hb] at e
  have h1 : chk 65535#16 (bodyL p) = 0#16 := (parse_chk hb (by omega) (by omega)).1 (by rw [parse_body h (by omega) hd])
  rw [h1, BitVec.zero_xor] at e
  exact err_ne (by omega) l h3 h0 hnd he e
theorem flips_none : ∀ (l b : List Int), (∀ i, i ∈ l → ¬ i < 8 * (b.length : Int)) → l.foldl flip1 b = b
  | [], _, _ => rfl
  | i :: r, b, h => by
    have h1 := h i List.mem_cons_self
    have e : flip1 b i = b := by
      unfold flip1
      rw [if_neg (by omega)]
    rw [List.foldl_cons, e]
    exact flips_none r b fun j hj => h j (List.mem_cons_of_mem _ hj)
theorem body_bytes {p : Pk} (h : pok p) (hd : ∀ x, x ∈ p.2.2.2 → 0 ≤ x ∧ x ≤ 255) : ∀ x, x ∈ bodyL p → 0 ≤ x ∧ x ≤ 255 := by
  intro x hx
  have hs := sumOf_in (headL p)
  unfold bodyL at hx
  rcases List.mem_append.1 hx with q | q
  · exact head_bytes h hd x q
  · simp at q
    omega

end Go.Proofs.Ytbaekdcacmoniaa.Pure
