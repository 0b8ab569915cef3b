/- Frames and streams. -/
import Derived.Test.YtmbjpenjcfkaoaaEC0
import Derived.Test.YtmbjpenjcfkaoaaPl
import Derived.Test.YtmbjpenjcfkaoaaLemBus
namespace Go.Proofs.Ytmbjpenjcfkaoaa.Pure
set_option linter.unusedVariables false
set_option linter.unusedSimpArgs false
open Go Go.RowKit Go.Proofs.Ytmbjpenjcfkaoaa.Pv Go.Proofs.Ytmbjpenjcfkaoaa.Pl Go.Proofs.Ytmbjpenjcfkaoaa.EC

abbrev Pk : Type := Int × Int × Int × List Int
abbrev Rd : Type := List Int × Bool × Bool × Bool × Int
abbrev Ds : Type := List Int × Bool × Bool
def Byte (x : Int) : Prop := 0 ≤ x ∧ x ≤ 255
def xo (x : Int) : Int := IntKind.u8.wrap (bitop .xor .u8 x 32)
theorem xo_fin : ∀ a : Fin 256, (IntKind.u8.wrap (bitop .xor .u8 (a.val : Int) 32) = 126 ↔ a.val = 94) ∧ (IntKind.u8.wrap (bitop .xor .u8 (a.val : Int) 32) = 125 ↔ a.val = 93) := by decide +kernel
theorem xo_val {x : Int} (h : Byte x) : (xo x = 126 ↔ x = 94) ∧ (xo x = 125 ↔ x = 93) := by
  obtain ⟨n, rfl⟩ := Int.eq_ofNat_of_zero_le h.1
  have hn : n < 256 := by have := h.2; omega
  have := xo_fin ⟨n, hn⟩
  simp only at this
  exact ⟨this.1.trans (by omega), this.2.trans (by omega)⟩
theorem xo_byte (x : Int) : Byte (xo x) := by
  unfold xo Byte
  rw [IntKind.wrap_u8]
  omega
/-! Frames: with a limit, as the reader takes them; without, as the reference does. -/
def putd (d : Ds) (x : Int) : Ds := if d.1.length = 21 then (d.1, d.2.1, true) else (d.1 ++ [x], d.2)
def dstep (d : Ds) (x : Int) : Ds := if d.2.2 = true then d else if d.2.1 = true then (if x = 94 ∨ x = 93 then putd (d.1, false, d.2.2) (xo x) else (d.1, false, true)) else if x = 125 then (d.1, true, d.2.2) else putd d x
def pstep (d : Ds) (x : Int) : Ds := if d.2.2 = true then d else if d.2.1 = true then (if x = 94 ∨ x = 93 then (d.1 ++ [xo x], false, false) else (d.1, false, true)) else if x = 125 then (d.1, true, false) else (d.1 ++ [x], false, false)
def d0 : Ds := ([], false, false)
def D (f : List Int) : Ds := f.foldl dstep d0
def P (f : List Int) : Ds := f.foldl pstep d0
theorem D_snoc (f : List Int) (x : Int) : D (f ++ [x]) = dstep (D f) x := by simp [D]
theorem P_snoc (f : List Int) (x : Int) : P (f ++ [x]) = pstep (P f) x := by simp [P]
def J (p d : Ds) : Prop := (d.2.2 = true ∧ (p.2.2 = true ∨ 21 < p.1.length)) ∨ (d = p ∧ p.1.length ≤ 21 ∧ p.2.2 = false)
theorem J_step {p d : Ds} (h : J p d) (x : Int) : J (pstep p x) (dstep d x) := by
  rcases h with ⟨h1, h2⟩ | ⟨rfl, h1, h2⟩
  · refine .inl ⟨by rw [dstep, if_pos h1]; exact h1, ?_⟩
    rcases h2 with h2 | h2
    · exact .inl (by rw [pstep, if_pos h2]; exact h2)
    · unfold pstep
      split
      · exact .inr h2
      · split
        · split
          · exact .inr (by simp; omega)
          · exact .inl rfl
        · split
          · exact .inr h2
          · exact .inr (by simp; omega)
  · obtain ⟨b, e, k⟩ := d
    simp only at h1 h2
    subst h2
    have hput : ∀ e' y, J (b ++ [y], e', false) (putd (b, e', false) y) := by
      intro e' y
      unfold putd
      by_cases c : b.length = 21
      · rw [if_pos c]
        exact .inl ⟨rfl, .inr (by simp; omega)⟩
      · rw [if_neg c]
        exact .inr ⟨rfl, by simp; omega, rfl⟩
    cases e with
    | true =>
      by_cases c : x = 94 ∨ x = 93
      · simp only [pstep, dstep, Bool.false_eq_true, if_false, if_true, if_pos c]
        exact hput _ _
      · simp only [pstep, dstep, Bool.false_eq_true, if_false, if_true, if_neg c]
        exact .inl ⟨rfl, .inl rfl⟩
    | false =>
      by_cases c : x = 125
      · simp only [pstep, dstep, Bool.false_eq_true, if_false, if_pos c]
        exact .inr ⟨rfl, h1, rfl⟩
      · simp only [pstep, dstep, Bool.false_eq_true, if_false, if_neg c]
        exact hput _ _
theorem J_all (f : List Int) : J (P f) (D f) := by
  have main : ∀ (f : List Int) (p d : Ds), J p d → J (f.foldl pstep p) (f.foldl dstep d) := by
    intro f
    induction f with
    | nil => intro p d h; exact h
    | cons x f ih => intro p d h; exact ih _ _ (J_step h x)
  exact main f d0 d0 (.inr ⟨rfl, by decide, rfl⟩)
theorem d_ok (f : List Int) (hf : ∀ x, x ∈ f → Byte x) : (D f).1.length ≤ 21 ∧ ∀ y, y ∈ (D f).1 → Byte y := by
  have main : ∀ (f : List Int) (d : Ds), (∀ x, x ∈ f → Byte x) → (d.1.length ≤ 21 ∧ ∀ y, y ∈ d.1 → Byte y) → ((f.foldl dstep d).1.length ≤ 21 ∧ ∀ y, y ∈ (f.foldl dstep d).1 → Byte y) := by
    intro f
    induction f with
    | nil => intro d _ h; exact h
    | cons x f ih =>
      intro d hx h
      refine ih _ (fun y hy => hx y (List.mem_cons_of_mem _ hy)) ?_
      have hput : ∀ (e k : Bool) y, Byte y → ((putd (d.1, e, k) y).1.length ≤ 21 ∧ ∀ z, z ∈ (putd (d.1, e, k) y).1 → Byte z) := by
        intro e k y hy
        unfold putd
        split
        · exact h
        · rename_i c
          refine ⟨by simp at c ⊢; omega, fun z hz => ?_⟩
          rcases List.mem_append.1 hz with q | q
          · exact h.2 z q
          · rw [List.mem_singleton.1 q]; exact hy
      unfold dstep
      split
      · exact h
      · split
        · split
          · exact hput _ _ _ (xo_byte x)
          · exact h
        · split
          · exact h
          · exact hput _ _ _ (hx x (List.mem_cons_self ..))
  exact main f d0 hf ⟨by decide, fun y hy => by cases hy⟩
theorem p_ok (f : List Int) (hf : ∀ x, x ∈ f → Byte x) : (P f).1.length ≤ f.length ∧ ∀ y, y ∈ (P f).1 → Byte y := by
  have main : ∀ (f : List Int) (d : Ds) (n : Nat), (∀ x, x ∈ f → Byte x) → (d.1.length ≤ n ∧ ∀ y, y ∈ d.1 → Byte y) → ((f.foldl pstep d).1.length ≤ n + f.length ∧ ∀ y, y ∈ (f.foldl pstep d).1 → Byte y) := by
    intro f
    induction f with
    | nil => intro d n _ h; exact h
    | cons x f ih =>
      intro d n hx h
      have hput : ∀ y, Byte y → ((d.1 ++ [y]).length ≤ n + 1 ∧ ∀ z, z ∈ d.1 ++ [y] → Byte z) := by
        intro y hy
        refine ⟨by simp; exact h.1, fun z hz => ?_⟩
        rcases List.mem_append.1 hz with q | q
        · exact h.2 z q
        · rw [List.mem_singleton.1 q]; exact hy
      have h' : d.1.length ≤ n + 1 ∧ ∀ y, y ∈ d.1 → Byte y := ⟨by omega, h.2⟩
      have := ih (pstep d x) (n + 1) (fun y hy => hx y (List.mem_cons_of_mem _ hy)) (by
        unfold pstep
        split
        · exact h'
        · split
          · split
            · exact hput _ (xo_byte x)
            · exact h'
          · split
            · exact h'
            · exact hput _ (hx x (List.mem_cons_self ..)))
      refine ⟨by rw [List.foldl_cons, List.length_cons]; omega, this.2⟩
  have := main f d0 0 hf ⟨by decide, fun y hy => by cases hy⟩
  exact ⟨by have := this.1; rw [Nat.zero_add] at this; exact this, this.2⟩
theorem p_ne (f : List Int) (x : Int) : (P (f ++ [x])).1 ≠ [] ∨ (P (f ++ [x])).2.1 = true ∨ (P (f ++ [x])).2.2 = true := by
  rw [P_snoc]
  unfold pstep
  split
  · rename_i h; exact .inr (.inr h)
  · split
    · split
      · exact .inl (by simp)
      · exact .inr (.inr rfl)
    · split
      · exact .inr (.inl rfl)
      · exact .inl (by simp)
/-! The reference's frame. -/
def finP (p : Ds) : List Int × Bool := if p.2.1 = true ∨ p.2.2 = true then ([], false) else (p.1, true)
theorem fold_bad (b : List Int) (e : Bool) : ∀ l : List Int, l.foldl pstep (b, e, true) = (b, e, true)
  | [] => rfl
  | x :: l => by
    rw [List.foldl_cons, show pstep (b, e, true) x = (b, e, true) from if_pos rfl]
    exact fold_bad b e l
theorem plain_run (f : List Int) (hf : f.length ≤ 1048576) : ∀ (u i : Nat) (acc : List Int), f.length - i ≤ u → i ≤ f.length → acc.length ≤ i → spyref2_plain.p3 f i acc = some (finP ((f.drop i).foldl pstep (acc, false, false))) := by
  intro u
  induction u with
  | zero =>
    intro i acc hu hi ha
    rw [spyref2_plain.p3_eq, if_neg (by rw [dt]; omega), List.drop_eq_nil_of_le (by omega)]
    rfl
  | succ u ih =>
    intro i acc hu hi ha
    by_cases hlt : i < f.length
    · rw [spyref2_plain.p3_eq, List.drop_eq_getElem_cons hlt, List.foldl_cons]
      simp only [if_pos (show decide ((i : Int) < (f.length : Int)) = true by rw [dt]; omega), if_pos (show (0 : Int) ≤ i by omega), if_pos (show (i : Int) < f.length by omega), toNat_nat, getD_nat _ _ hlt, wi_nat (show i < 9223372036854775807 by omega), if_pos (show (acc.length + 1) * 1 ≤ 140737488355328 by omega)]
      by_cases c : f[i] = 125
      · rw [if_pos (by rw [eq_t]; exact c), show pstep (acc, false, false) f[i] = (acc, true, false) by simp [pstep, c]]
        by_cases e : i + 1 = f.length
        · rw [if_neg (show ¬ (((i + 1 : Nat) : Int) == (f.length : Int)) = false by rw [eq_f]; omega), List.drop_eq_nil_of_le (by omega)]
          rfl
        · have hlt2 : i + 1 < f.length := by omega
          have p10 : spyref2_plain.p10 f ((i + 1 : Nat) : Int) acc = spyref2_plain.p3 f ((i + 2 : Nat) : Int) (acc ++ [xo f[i + 1]]) := by
            rw [spyref2_plain.p10_eq, if_pos (by omega), if_pos (by omega), if_pos (by omega), wi_nat (by omega), toNat_nat, getD_nat _ _ hlt2]
            rfl
          simp only [if_pos (show (((i + 1 : Nat) : Int) == (f.length : Int)) = false by rw [eq_f]; omega), if_pos (show (0 : Int) ≤ ((i + 1 : Nat) : Int) by omega), if_pos (show ((i + 1 : Nat) : Int) < f.length by omega), toNat_nat, getD_nat _ _ hlt2, p10]
          rw [List.drop_eq_getElem_cons hlt2, List.foldl_cons]
          have ok : f[i + 1] = 94 ∨ f[i + 1] = 93 → spyref2_plain.p3 f ((i + 2 : Nat) : Int) (acc ++ [xo f[i + 1]]) = some (finP ((f.drop (i + 1 + 1)).foldl pstep (pstep (acc, true, false) f[i + 1]))) := by
            intro q
            rw [show pstep (acc, true, false) f[i + 1] = (acc ++ [xo f[i + 1]], false, false) by simp [pstep, q]]
            exact ih (i + 2) _ (by omega) (by omega) (by simp; omega)
          by_cases c1 : f[i + 1] = 94
          · rw [if_neg (by rw [ne_t]; exact fun q => q c1)]
            exact ok (.inl c1)
          · rw [if_pos (by rw [ne_t]; exact c1)]
            by_cases c2 : f[i + 1] = 93
            · rw [if_neg (by rw [ne_t]; exact fun q => q c2)]
              exact ok (.inr c2)
            · rw [if_pos (by rw [ne_t]; exact c2), show pstep (acc, true, false) f[i + 1] = (acc, false, true) by simp [pstep, c1, c2], fold_bad]
              rfl
      · rw [if_neg (by rw [eq_t]; exact c), show pstep (acc, false, false) f[i] = (acc ++ [f[i]], false, false) by simp [pstep, c]]
        exact ih (i + 1) _ (by omega) (by omega) (by simp; omega)
    · rw [spyref2_plain.p3_eq, if_neg (by rw [dt]; omega), List.drop_eq_nil_of_le (by omega)]
      rfl
theorem plain_val (f : List Int) (hf : f.length ≤ 1048576) : spyref2_plain f = some (finP (P f)) := by
  rw [spyref2_plain_eq]
  exact plain_run f hf _ 0 [] (Nat.le_refl _) (by omega) (by simp)
/-- What a frame gives. -/
def resF (f : List Int) : Option Pk := if (finP (P f)).2 = true ∧ (parseR (finP (P f)).1).2 = 0 then some (parseR (finP (P f)).1).1 else none
/-! A stream, byte by byte. -/
structure G where
  out : List Pk
  bad : Int
  fr : Option (List Int)
def gflag (g : G) : G :=
  match g.fr with
  | none => ⟨g.out, g.bad, some []⟩
  | some [] => ⟨g.out, g.bad, some []⟩
  | some (x :: f) => match resF (x :: f) with | some p => ⟨g.out ++ [p], g.bad, some []⟩ | none => ⟨g.out, g.bad + 1, some []⟩
def gstep (g : G) (x : Int) : G := if x = 126 then gflag g else ⟨g.out, g.bad, g.fr.map (· ++ [x])⟩
def g0 : G := ⟨[], 0, none⟩
def Gs (s : List Int) : G := s.foldl gstep g0
theorem Gs_take (s : List Int) {k : Nat} (h : k < s.length) : Gs (s.take (k + 1)) = gstep (Gs (s.take k)) s[k] := by
  rw [List.take_succ_eq_append_getElem h, Gs, List.foldl_append]
  rfl
theorem g_small (s : List Int) (hs : ∀ x, x ∈ s → Byte x) : ∀ k, k ≤ s.length → (Gs (s.take k)).out.length ≤ k ∧ 0 ≤ (Gs (s.take k)).bad ∧ (Gs (s.take k)).bad ≤ k ∧ ∀ f, (Gs (s.take k)).fr = some f → f.length ≤ k ∧ ∀ x, x ∈ f → Byte x := by
  intro k
  induction k with
  | zero => intro _; exact ⟨by simp [Gs, g0], by simp [Gs, g0], by simp [Gs, g0], fun f h => by simp [Gs, g0] at h⟩
  | succ k ih =>
    intro hk
    have hlt : k < s.length := by omega
    obtain ⟨h1, h2, h3, h4⟩ := ih (by omega)
    rw [Gs_take s hlt]
    generalize Gs (s.take k) = g at *
    have hb := hs s[k] (List.getElem_mem ..)
    unfold gstep
    split
    · unfold gflag
      split
      · exact ⟨by simp; omega, by simp; omega, by simp; omega, fun f h => by simp at h; subst h; exact ⟨by simp, fun x hx => by cases hx⟩⟩
      · exact ⟨by simp; omega, by simp; omega, by simp; omega, fun f h => by simp at h; subst h; exact ⟨by simp, fun x hx => by cases hx⟩⟩
      · split
        · exact ⟨by simp; omega, by simp; omega, by simp; omega, fun f h => by simp at h; subst h; exact ⟨by simp, fun x hx => by cases hx⟩⟩
        · exact ⟨by simp; omega, by simp; omega, by simp; omega, fun f h => by simp at h; subst h; exact ⟨by simp, fun x hx => by cases hx⟩⟩
    · refine ⟨by simp; omega, by simp; omega, by simp; omega, fun f h => ?_⟩
      simp only [Option.map_eq_some_iff] at h
      obtain ⟨f0, e, rfl⟩ := h
      obtain ⟨q1, q2⟩ := h4 f0 e
      refine ⟨by simp; omega, fun x hx => ?_⟩
      rcases List.mem_append.1 hx with q | q
      · exact q2 x q
      · rw [List.mem_singleton.1 q]; exact hb
/-! The reader. -/
def Rel (r : Rd) (g : G) : Prop :=
  match g.fr with
  | none => r = ([], false, false, false, g.bad)
  | some f => r = ((D f).1, (D f).2.1, (D f).2.2, true, g.bad)
theorem put_val (r : Rd) (x : Int) (h : r.1.length ≤ 21) : bus_Reader_put r x = some ((), (putd (r.1, r.2.1, r.2.2.1) x).1, (putd (r.1, r.2.1, r.2.2.1) x).2.1, (putd (r.1, r.2.1, r.2.2.1) x).2.2, r.2.2.2) := by
  rw [bus_Reader_put_eq]
  unfold putd
  by_cases c : r.1.length = 21
  · rw [if_pos (by rw [eq_t]; omega), if_pos c]
  · rw [if_neg (by rw [eq_t]; omega), if_neg c, if_pos (by omega)]
theorem feed_byte (b : List Int) (e k : Bool) (bad x : Int) (hl : b.length ≤ 21) (hx : Byte x) (hn : x ≠ 126) : bus_Reader_Feed (b, e, k, true, bad) x = some (((0, 0, 0, []), false), (dstep (b, e, k) x).1, (dstep (b, e, k) x).2.1, (dstep (b, e, k) x).2.2, true, bad) := by
  obtain ⟨x1, x2⟩ := xo_val hx
  rw [bus_Reader_Feed_eq, if_neg (by rw [eq_t]; exact hn)]
  show (if k = false then (if (!true) = true then _ else _) else _) = _
  cases k with
  | true =>
    rw [if_neg (by decide)]
    rfl
  | false =>
    rw [if_pos rfl, if_neg (by decide)]
    cases e with
    | true =>
      simp only [show IntKind.u8.wrap (bitop .xor .u8 x 32) = xo x from rfl, if_true]
      rw [put_val _ _ hl]
      simp only [dstep, Bool.false_eq_true, if_false, if_true]
      by_cases c1 : x = 94
      · rw [if_neg (by rw [eq_f]; exact fun q => q (x1.2 c1)), if_pos (.inl c1)]
        rfl
      · rw [if_pos (by rw [eq_f]; exact fun q => c1 (x1.1 q))]
        by_cases c2 : x = 93
        · rw [if_pos (show (xo x == 125) = true by rw [eq_t]; exact x2.2 c2), if_pos (.inr c2)]
          rfl
        · rw [if_neg (show ¬ (xo x == 125) = true by rw [eq_t]; exact fun q => c2 (x2.1 q)), if_neg (by omega)]
    | false =>
      rw [if_neg (by simp), put_val _ _ hl]
      simp only [dstep, Bool.false_eq_true, if_false]
      by_cases c : x = 125
      · rw [if_pos (by rw [eq_t]; exact c), if_pos c]
      · rw [if_neg (by rw [eq_t]; exact c), if_neg c]
        rfl
theorem flag_val (b : List Int) (e k o : Bool) (bad : Int) (hb : ∀ x, x ∈ b → Byte x) (h0 : 0 ≤ bad) (h1 : bad ≤ 1048576) : bus_Reader_Feed (b, e, k, o, bad) 126 = some (if b = [] ∧ e = false ∧ k = false then (((0, 0, 0, []), false), [], false, false, true, bad) else if e = false ∧ k = false ∧ (parseR b).2 = 0 then (((parseR b).1, true), [], false, false, true, bad) else (((0, 0, 0, []), false), [], false, false, true, bad + 1)) := by
  have p5 : ∀ (B : Bool), (B = true ↔ ¬ (e = false ∧ k = false)) → bus_Reader_flag.p5 b B (0, 0, 0, []) false false true bad [] = some (if e = false ∧ k = false ∧ (parseR b).2 = 0 then (((parseR b).1, true), [], false, false, true, bad) else (((0, 0, 0, []), false), [], false, false, true, bad + 1)) := by
    intro B hB
    rw [bus_Reader_flag.p5_eq, bus_parse b hb, bind_some_]
    simp only [wi (x := bad + 1) (by omega) (by omega)]
    cases B with
    | true =>
      rw [if_neg (by decide), if_neg (fun q => (hB.1 rfl) ⟨q.1, q.2.1⟩)]
    | false =>
      have hek : e = false ∧ k = false := Classical.byContradiction fun q => by have := hB.2 q; cases this
      rw [if_pos rfl]
      by_cases c : (parseR b).2 = 0
      · rw [if_neg (by rw [ne_t]; exact fun q => q c), if_pos ⟨hek.1, hek.2, c⟩]
      · rw [if_pos (by rw [ne_t]; exact c), if_neg (fun q => c q.2.2)]
  have p2 : ∀ (B : Bool), (B = true ↔ ¬ (e = false ∧ k = false)) → bus_Reader_flag.p2 b B ((b.length : Int) == 0) (0, 0, 0, []) (b, e, k, o, bad) = some (if b = [] ∧ e = false ∧ k = false then (((0, 0, 0, []), false), [], false, false, true, bad) else if e = false ∧ k = false ∧ (parseR b).2 = 0 then (((parseR b).1, true), [], false, false, true, bad) else (((0, 0, 0, []), false), [], false, false, true, bad + 1)) := by
    intro B hB
    rw [bus_Reader_flag.p2_eq, p5 B hB]
    by_cases c : b = []
    · rw [if_pos (by rw [eq_t, c]; rfl)]
      cases B with
      | true =>
        rw [if_neg (by decide), if_neg (show ¬ (b = [] ∧ e = false ∧ k = false) from fun q => (hB.1 rfl) q.2)]
      | false =>
        have hek : e = false ∧ k = false := Classical.byContradiction fun q => by have := hB.2 q; cases this
        rw [if_pos (by decide), if_pos ⟨c, hek⟩]
    · rw [if_neg (by rw [eq_t]; intro q; exact c (List.eq_nil_of_length_eq_zero (by omega))), if_neg (show ¬ (b = [] ∧ e = false ∧ k = false) from fun q => c q.1)]
  rw [bus_Reader_Feed_eq, if_pos (by decide), bind_id, bus_Reader_flag_eq]
  cases k with
  | false =>
    rw [if_pos rfl]
    exact p2 e (by cases e <;> simp)
  | true =>
    rw [if_neg (by simp)]
    exact p2 true (by simp)
theorem long_bad {b : List Int} (h : 21 < b.length) : (parseR b).2 = 2 := by
  unfold parseR
  rw [if_neg (by omega), if_pos (by omega)]
theorem feed_all (r : Rd) (g : G) (x : Int) (hx : Byte x) (h : Rel r g) (h0 : 0 ≤ g.bad) (h1 : g.bad ≤ 1048576) (hf : ∀ f, g.fr = some f → ∀ y, y ∈ f → Byte y) : ∃ o r', bus_Reader_Feed r x = some (o, r') ∧ Rel r' (gstep g x) ∧ ((o.2 = true ∧ (gstep g x).out = g.out ++ [o.1]) ∨ (o.2 = false ∧ (gstep g x).out = g.out ∧ o.1 = (0, 0, 0, []))) := by
  obtain ⟨out, bad, fr⟩ := g
  simp only at h0 h1 hf
  cases fr with
  | none =>
    obtain rfl : r = ([], false, false, false, bad) := h
    by_cases c : x = 126
    · subst c
      rw [flag_val [] false false false bad (fun x hx => by cases hx) h0 h1, if_pos ⟨rfl, rfl, rfl⟩]
      exact ⟨_, _, rfl, rfl, .inr ⟨rfl, rfl, rfl⟩⟩
    · refine ⟨((0, 0, 0, []), false), ([], false, false, false, bad), ?_, ?_, .inr ⟨rfl, by simp [gstep, c], rfl⟩⟩
      · rw [bus_Reader_Feed_eq, if_neg (by rw [eq_t]; exact c)]
        rfl
      · simp [gstep, c, Rel]
  | some f =>
    obtain rfl : r = ((D f).1, (D f).2.1, (D f).2.2, true, bad) := h
    have hby := hf f rfl
    obtain ⟨dl, db⟩ := d_ok f hby
    by_cases c : x = 126
    · subst c
      rw [flag_val _ _ _ _ bad db h0 h1]
      cases f with
      | nil =>
        rw [if_pos ⟨rfl, rfl, rfl⟩]
        exact ⟨_, _, rfl, rfl, .inr ⟨rfl, rfl, rfl⟩⟩
      | cons y f =>
        have hj := J_all (y :: f)
        have hres : (D (y :: f)).2.1 = false ∧ (D (y :: f)).2.2 = false ∧ (parseR (D (y :: f)).1).2 = 0 → resF (y :: f) = some (parseR (D (y :: f)).1).1 := by
          rintro ⟨q1, q2, q3⟩
          rcases hj with ⟨h1, _⟩ | ⟨h1, _, _⟩
          · rw [q2] at h1; cases h1
          · rw [h1] at q1 q2 q3 ⊢
            have e : finP (P (y :: f)) = ((P (y :: f)).1, true) := by rw [finP, if_neg (by rw [q1, q2]; simp)]
            rw [resF, e, if_pos ⟨rfl, q3⟩]
        have hres0 : ¬ ((D (y :: f)).2.1 = false ∧ (D (y :: f)).2.2 = false ∧ (parseR (D (y :: f)).1).2 = 0) → resF (y :: f) = none := by
          intro q
          rw [resF, if_neg]
          rintro ⟨k1, k2⟩
          unfold finP at k1 k2
          split at k1
          · cases k1
          · rename_i hn
            rw [if_neg hn] at k2
            have n1 : (P (y :: f)).2.1 = false := by cases hz : (P (y :: f)).2.1 with | false => rfl | true => exact absurd (.inl hz) hn
            have n2 : (P (y :: f)).2.2 = false := by cases hz : (P (y :: f)).2.2 with | false => rfl | true => exact absurd (.inr hz) hn
            rcases hj with ⟨_, h2⟩ | ⟨h2, _, _⟩
            · rcases h2 with h2 | h2
              · rw [n2] at h2; cases h2
              · have := long_bad h2
                simp only at k2
                omega
            · exact q (by rw [h2]; exact ⟨n1, n2, k2⟩)
        have hne : ¬ ((D (y :: f)).1 = [] ∧ (D (y :: f)).2.1 = false ∧ (D (y :: f)).2.2 = false) := by
          rintro ⟨k1, k2, k3⟩
          rcases hj with ⟨h1, _⟩ | ⟨h1, _, _⟩
          · rw [k3] at h1; cases h1
          · rw [h1] at k1 k2 k3
            obtain ⟨l, z, e⟩ : ∃ l z, y :: f = l ++ [z] := ⟨(y :: f).dropLast, (y :: f).getLast (by simp), (List.dropLast_concat_getLast (by simp)).symm⟩
            have := p_ne l z
            rw [← e, k1, k2, k3] at this
            simp at this
        rw [if_neg hne]
        by_cases q : (D (y :: f)).2.1 = false ∧ (D (y :: f)).2.2 = false ∧ (parseR (D (y :: f)).1).2 = 0
        · rw [if_pos q]
          refine ⟨_, _, rfl, ?_, .inl ⟨rfl, ?_⟩⟩
          · simp [gstep, gflag, hres q, Rel, D, d0]
          · simp [gstep, gflag, hres q]
        · rw [if_neg q]
          refine ⟨_, _, rfl, ?_, .inr ⟨rfl, ?_, rfl⟩⟩
          · simp [gstep, gflag, hres0 q, Rel, D, d0]
          · simp [gstep, gflag, hres0 q]
    · rw [feed_byte _ _ _ bad x dl hx c]
      refine ⟨_, _, rfl, ?_, .inr ⟨rfl, by simp [gstep, c], rfl⟩⟩
      simp only [gstep, if_neg c, Rel, Option.map_some]
      rw [D_snoc]

end Go.Proofs.Ytmbjpenjcfkaoaa.Pure
