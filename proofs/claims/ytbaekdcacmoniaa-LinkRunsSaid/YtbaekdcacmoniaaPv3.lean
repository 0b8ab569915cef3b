/- The relation between a state of the pure machine and a frame and a world of the model's; what each change of a state asks. -/
import Derived.Test.YtbaekdcacmoniaaPv2
namespace Go.Proofs.Ytbaekdcacmoniaa.Pv
open Go Go.RowKit

def blks1 : Value → List Nat
  | .pointer (some a) => [a.block]
  | .map (some g) => [g]
  | .slice (some a) _ (_ + 1) => [a.block]
  | _ => []
/-- The blocks that a label stands for. -/
def blks : Value → List Nat
  | .agg cs => cs.toList.flatMap blks1
  | v => blks1 v
theorem in_blk {v : Value} {g : Nat} (h : blks v = [g]) : g ∈ blks v := by rw [h]; exact List.mem_singleton.2 rfl
theorem blks_ptr (a : Addr) : blks (.pointer (some a)) = [a.block] := rfl
theorem blks_map (g : Nat) : blks (.map (some g)) = [g] := rfl
theorem blks_slice (a : Addr) (n k : Nat) : blks (.slice (some a) n (k + 1)) = [a.block] := rfl
theorem blks_slice0 (A : Option Addr) (n : Nat) : blks (.slice A n 0) = [] := by cases A <;> rfl
/-- A plain value of a map's key or element. -/
def plainV : (t : Ty) → t.den → Value
  | .int k, n => .int k n
  | .bool, b => .bool b
  | .str, s => .string s
  | _, _ => undef
def plainK : Ty → Bool
  | .int _ => true
  | .str => true
  | _ => false
def plainE : Ty → Bool
  | .int _ => true
  | .bool => true
  | _ => false
/-- A map's entries. -/
def MapR (k v : Ty) : List (k.den × v.den) → List MapEntry → Prop
  | [], es => es = []
  | p :: r, es => ∃ e es', es = e :: es' ∧ e.key = plainV k p.1 ∧ e.val = plainV v p.2 ∧ MapR k v r es'
/-- A row of the call's own, its slice's value being v. -/
def RowR (own : Nat → Prop) (w : World) (v : Value) (e : TypeId) (t : Ty) (l : List t.den) : Prop :=
  ((∃ A, v = .slice A 0 0) ∧ l = []) ∨ ∃ (g c : Nat) (vs : Array Value), v = .slice (some ⟨g, 0, none⟩) l.length (c + 1) ∧ l.length ≤ c + 1 ∧ c + 1 ≤ maxLen ∧ w.heap[g]? = some (.cells vs e (0, 0)) ∧ vs.size = (c + 1) * t.sz ∧
      ∀ (i : Nat) (x : t.den), l[i]? = some x → RdC own w t x ((vs.toList.drop (i * t.sz)).take t.sz)
/-- A row of rows: the outer cells hold the inner rows' values, but for a hole. -/
def DeepR (own : Nat → Prop) (w : World) (v : Value) (e e' : TypeId) (t : Ty) (l : List (List t.den)) (hole : Option Int) : Prop :=
  ∃ (A : Value) (us : List Value), v = .agg (A :: us).toArray ∧ us.length = l.length ∧ (blks v).Nodup ∧
    (((∃ A0, A = .slice A0 0 0) ∧ l = []) ∨ ∃ (g c : Nat) (vs : Array Value), A = .slice (some ⟨g, 0, none⟩) l.length (c + 1) ∧ l.length ≤ c + 1 ∧ c + 1 ≤ maxLen ∧ w.heap[g]? = some (.cells vs e (0, 0)) ∧ vs.size = c + 1 ∧ ∀ (i : Nat) (u : Value), us[i]? = some u → hole ≠ some (i : Int) → vs[i]? = some u) ∧
    ∀ (i : Nat) (x : List t.den) (u : Value), l[i]? = some x → us[i]? = some u → if hole = some (i : Int) then u = undef else RowR own w u e' t x
/-- A block of the store. -/
def BR (ρ : Nat → Value) (own : Nat → Prop) (w : World) (id : Nat) : Blk → Prop
  | .box t cs => ∃ (g : Nat) (vs : Array Value), ρ id = .pointer (some ⟨g, 0, none⟩) ∧ w.heap[g]? = some (.cells vs t (0, 0)) ∧ VRs ρ own w cs vs.toList
  | .row e t l => ((∃ A, ρ id = .slice A 0 0) ∧ l = []) ∨ ∃ (g c : Nat) (vs : Array Value), ρ id = .slice (some ⟨g, 0, none⟩) l.length (c + 1) ∧ l.length ≤ c + 1 ∧ c + 1 ≤ maxLen ∧ w.heap[g]? = some (.cells vs e (0, 0)) ∧ vs.size = (c + 1) * t.sz ∧
      ∀ (i : Nat) (x : t.den), l[i]? = some x → RdC own w t x ((vs.toList.drop (i * t.sz)).take t.sz)
  | .map k v l => ∃ (g : Nat) (es : Array MapEntry) (clock : Nat), ρ id = .map (some g) ∧ w.heap[g]? = some (.map es clock) ∧ plainK k = true ∧ plainE v = true ∧ MapR k v l es.toList
  | .deep e e' t l hole => DeepR own w (ρ id) e e' t l hole
def Blk.isBox : Blk → Bool
  | .box _ _ => true
  | .row _ _ _ => false
  | .map _ _ _ => false
  | .deep _ _ _ _ _ => false
/-- w is w0 but for blocks that were lent, and new ones. -/
structure Beneath (L : Nat → Prop) (w0 w : World) : Prop where
  os : w.os = w0.os
  tape : w.tape = w0.tape
  output : w.output = w0.output
  size : w0.heap.size ≤ w.heap.size
  block : ∀ k, k < w0.heap.size → ¬ L k → w.heap[k]? = w0.heap[k]?
theorem Beneath.refl (L : Nat → Prop) (w : World) : Beneath L w w := ⟨rfl, rfl, rfl, Nat.le_refl _, fun _ _ _ => rfl⟩
theorem Beneath.trans {L L' : Nat → Prop} {a b c : World} (h : Beneath L a b) (k : Beneath L' b c) (hl : ∀ g, g < a.heap.size → L' g → L g) : Beneath L a c :=
  ⟨k.os.trans h.os, k.tape.trans h.tape, k.output.trans h.output, Nat.le_trans h.size k.size, fun i hi hn => (k.block i (Nat.lt_of_lt_of_le hi h.size) (fun q => hn (hl i hi q))).trans (h.block i hi hn)⟩
theorem Beneath.below {w0 w : World} (h : Beneath (fun _ => False) w0 w) : Below w0.heap.size w0 w := ⟨h.os, h.tape, h.output, h.size, fun k hk => h.block k hk id⟩
/-- A call's frame: the world it began in; the blocks that its caller may change later; the blocks that were lent to it. -/
structure Cx (W0 : World) : Type where
  w0 : World
  F : Nat → Prop
  L : Nat → Prop
  dis : ∀ g, F g → ¬ L g
  pin : Option (Nat × Value)
  st : Beneath (fun _ => False) W0 w0
  low : ∀ g, L g → W0.heap.size ≤ g
structure RelX (ρ : Nat → Value) (own : Nat → Prop) {W0 : World} (c : Cx W0) (s : St) (a : Act) (w : World) : Prop where
  len : s.env.length = a.tmps.size
  env : ∀ t, VR ρ own w (nth s.env t) (a.tmps.getD t undef)
  sto : ∀ id b, look id s.sto = some b → BR ρ own w id b
  apart : ∀ id id' b b' g, look id s.sto = some b → look id' s.sto = some b' → g ∈ blks (ρ id) → g ∈ blks (ρ id') → id = id'
  owned : ∀ id b g, look id s.sto = some b → g ∈ blks (ρ id) → own g ∧ (c.w0.heap.size ≤ g ∨ c.L g ∨ (gst id = true ∧ b.isRow = true ∧ c.F g))
  lo : ∀ g, own g → g < w.heap.size
  base : ∀ g, c.F g → own g
  fr : ∀ g, c.F g → g < c.w0.heap.size
  below : Beneath c.L c.w0 w
  defers : a.defers = []
  pin : ∀ i v, c.pin = some (i, v) → pinAt i (nth s.env i) = true → a.tmps.getD i undef = v

theorem RelX.mine {ρ : Nat → Value} {own : Nat → Prop} {W0 : World} {c : Cx W0} {s : St} {a : Act} {w : World} (h : RelX ρ own c s a w) {id : Nat} {b : Blk} {g : Nat} (hn : gst id = false ∨ b.isRow = false) (hid : look id s.sto = some b) (hg : g ∈ blks (ρ id)) : own g ∧ (c.w0.heap.size ≤ g ∨ c.L g) := by
  obtain ⟨h1, h2 | h2 | ⟨h3, h4, _⟩⟩ := h.owned id b g hid hg
  · exact ⟨h1, .inl h2⟩
  · exact ⟨h1, .inr h2⟩
  · rcases hn with q | q
    · rw [q] at h3; cases h3
    · rw [q] at h4; cases h4
/-! ### lists -/
theorem len_put : ∀ (l : List PV) (n : Nat) (v : PV), (put l n v).length = l.length
  | [], _, _ => rfl
  | _ :: _, 0, _ => rfl
  | _ :: r, n + 1, v => by simp only [put, List.length_cons, len_put r n v]
theorem nth_put : ∀ (l : List PV) (n t : Nat) (v : PV), nth (put l n v) t = if t = n ∧ n < l.length then v else nth l t
  | [], n, t, v => by simp [put, nth]
  | x :: r, 0, 0, v => by simp [put, nth]
  | x :: r, 0, t + 1, v => by simp [put, nth]
  | x :: r, n + 1, 0, v => by simp [put, nth]
  | x :: r, n + 1, t + 1, v => by
    simp only [put, nth, nth_put r n t v, List.length_cons]
    by_cases h : t = n ∧ n < r.length
    · rw [if_pos h, if_pos (by omega)]
    · rw [if_neg h, if_neg (by omega)]
theorem nth_out : ∀ (l : List PV) (t : Nat), l.length ≤ t → nth l t = .undef
  | [], _, _ => rfl
  | x :: r, 0, h => by simp at h
  | x :: r, t + 1, h => by rw [nth]; exact nth_out r t (by simpa using h)
theorem nth_forget (id : Nat) : ∀ (l : List PV) (t : Nat), nth (forgetL id l) t = if holds id (nth l t) = true then .undef else nth l t
  | [], t => by simp [forgetL, nth, holds]
  | x :: r, 0 => by rw [forgetL, nth, nth]
  | x :: r, t + 1 => by rw [forgetL, nth, nth]; exact nth_forget id r t
theorem len_forget (id : Nat) : ∀ l : List PV, (forgetL id l).length = l.length
  | [] => rfl
  | x :: r => by simp only [forgetL, List.length_cons, len_forget id r]
theorem free_forget (id : Nat) : ∀ l : List PV, holdsL id (forgetL id l) = false
  | [] => rfl
  | x :: r => by
    rw [forgetL, holdsL, free_forget id r, Bool.or_false]
    split
    · rfl
    · rename_i h
      simpa using h
theorem look_cons_same (j : Nat) (c : Blk) (r : List (Nat × Blk)) : look j ((j, c) :: r) = some c := by rw [look, if_pos (by simp)]
theorem look_cons_ne {i j : Nat} (c : Blk) (r : List (Nat × Blk)) (h : i ≠ j) : look j ((i, c) :: r) = look j r := by rw [look, if_neg (by simpa using h)]
theorem look_drop (id : Nat) : ∀ (l : List (Nat × Blk)) (j : Nat) (b : Blk), look j (dropb id l) = some b → j ≠ id ∧ look j l = some b
  | [], j, b, h => by simp [dropb, look] at h
  | (i, c) :: r, j, b, h => by
    rw [dropb] at h
    by_cases hi : i = id
    · subst hi
      rw [if_pos (by simp)] at h
      have := look_drop i r j b h
      exact ⟨this.1, (look_cons_ne c r (fun e => this.1 e.symm)).trans this.2⟩
    · rw [if_neg (by simpa using hi)] at h
      by_cases hj : i = j
      · subst hj
        rw [look_cons_same] at h ⊢
        exact ⟨hi, h⟩
      · rw [look_cons_ne _ _ hj] at h ⊢
        exact look_drop id r j b h
theorem look_forget (id : Nat) : ∀ (l : List (Nat × Blk)) (j : Nat) (b : Blk), look j (forgetB id l) = some b → ∃ b0, look j l = some b0 ∧ (match b0 with | .box t cs => b = .box t (forgetL id cs) | .row e t x => b = .row e t x | .map k v x => b = .map k v x | .deep e e' t x o => b = .deep e e' t x o)
  | [], j, b, h => by simp [forgetB, look] at h
  | (i, .box t cs) :: r, j, b, h => by
    rw [forgetB, look] at h
    rw [look]
    by_cases hj : i = j
    · subst hj
      rw [if_pos (by simp)] at h ⊢
      exact ⟨_, rfl, (Option.some.inj h).symm⟩
    · rw [if_neg (by simpa using hj)] at h ⊢
      exact look_forget id r j b h
  | (i, .row e t x) :: r, j, b, h => by
    rw [forgetB, look] at h
    rw [look]
    by_cases hj : i = j
    · subst hj
      rw [if_pos (by simp)] at h ⊢
      exact ⟨_, rfl, (Option.some.inj h).symm⟩
    · rw [if_neg (by simpa using hj)] at h ⊢
      exact look_forget id r j b h
  | (i, .deep e e' t x o) :: r, j, b, h => by
    rw [forgetB, look] at h
    rw [look]
    by_cases hj : i = j
    · subst hj
      rw [if_pos (by simp)] at h ⊢
      exact ⟨_, rfl, (Option.some.inj h).symm⟩
    · rw [if_neg (by simpa using hj)] at h ⊢
      exact look_forget id r j b h
  | (i, .map k v x) :: r, j, b, h => by
    rw [forgetB, look] at h
    rw [look]
    by_cases hj : i = j
    · subst hj
      rw [if_pos (by simp)] at h ⊢
      exact ⟨_, rfl, (Option.some.inj h).symm⟩
    · rw [if_neg (by simpa using hj)] at h ⊢
      exact look_forget id r j b h
theorem look_set (id : Nat) (b : Blk) : ∀ (l : List (Nat × Blk)) (j : Nat), look j (setb id b l) = if j = id then (look id l).map (fun _ => b) else look j l
  | [], j => by simp [setb, look]
  | (i, c) :: r, j => by
    rw [setb]
    by_cases hi : i = id
    · subst hi
      rw [if_pos (by simp)]
      by_cases hj : j = i
      · subst hj
        rw [if_pos rfl, look_cons_same, look_cons_same]
        rfl
      · rw [if_neg hj, look_cons_ne _ _ (fun e => hj e.symm), look_cons_ne _ _ (fun e => hj e.symm)]
    · rw [if_neg (by simpa using hi)]
      by_cases hj : i = j
      · subst hj
        rw [if_neg hi, look_cons_same, look_cons_same]
      · rw [look_cons_ne _ _ hj, look_set id b r j, look_cons_ne _ _ hi, look_cons_ne _ _ hj]
theorem getD_set (xs : Array Value) (d t : Nat) (v : Value) : (xs.setIfInBounds d v).getD t undef = if t = d ∧ d < xs.size then v else xs.getD t undef := by
  simp only [Array.getD_eq_getD_getElem?, Array.getElem?_setIfInBounds]
  by_cases h : d = t
  · subst h
    by_cases hd : d < xs.size
    · simp [hd]
    · simp [hd]
  · rw [if_neg h, if_neg (by omega)]
theorem VRs.forget {ρ : Nat → Value} {own : Nat → Prop} {w : World} (id : Nat) : ∀ {ps : List PV} {vs : List Value}, VRs ρ own w ps vs → VRs ρ own w (forgetL id ps) vs
  | [], _, h => h
  | p :: ps, _, h => by
    rw [VRs] at h
    obtain ⟨v, r, e, h1, h2⟩ := h
    rw [forgetL, VRs]
    refine ⟨v, r, e, ?_, VRs.forget id h2⟩
    split
    · rw [VR]
      trivial
    · exact h1

/-! ### changes of a state -/
theorem unpin_ne (t : Nat) (p : PV) : ¬ pinAt t (unpin t p) = true := by
  unfold unpin
  split
  · rw [pinAt]
    · nofun
    all_goals nofun
  · assumption
theorem unpin_of {t : Nat} {p : PV} (h : pinAt t p = false) : unpin t p = p := by
  unfold unpin
  rw [h]
  rfl
theorem VR_unpin {ρ : Nat → Value} {own : Nat → Prop} {w : World} (t : Nat) {p : PV} {v : Value} (h : VR ρ own w p v) : VR ρ own w (unpin t p) v := by
  unfold unpin
  split
  · rw [VR]
    trivial
  · exact h
theorem forget_pin {id i : Nat} {l : List PV} (h : pinAt i (nth (forgetL id l) i) = true) : pinAt i (nth l i) = true := by
  rw [nth_forget] at h
  split at h
  · cases h
  · exact h
theorem RelX.puto {ρ : Nat → Value} {own : Nat → Prop} {W0 : World} {c : Cx W0} {s : St} {a : Act} {w : World} (h : RelX ρ own c s a w) (d : Option Tmp) {p : PV} {v : Value} (hv : VR ρ own w p v) : RelX ρ own c (s.puto d p) (a.put d v) w := by
  cases d with
  | none => exact h
  | some d =>
    refine ⟨?_, fun t => ?_, h.sto, h.apart, h.owned, h.lo, h.base, h.fr, h.below, h.defers, fun i u hp hi => ?_⟩
    · show (put s.env d (unpin d p)).length = (a.tmps.setIfInBounds d v).size
      rw [len_put, Array.size_setIfInBounds]
      exact h.len
    · show VR ρ own w (nth (put s.env d (unpin d p)) t) ((a.tmps.setIfInBounds d v).getD t undef)
      rw [nth_put, getD_set, h.len]
      split
      · exact VR_unpin d hv
      · exact h.env t
    · have hi' : pinAt i (nth (put s.env d (unpin d p)) i) = true := hi
      show (a.tmps.setIfInBounds d v).getD i undef = u
      rw [getD_set]
      rw [nth_put, h.len] at hi'
      split at hi'
      · rename_i e
        rw [e.1] at hi'
        exact absurd hi' (unpin_ne d p)
      · rename_i e
        rw [if_neg e]
        exact h.pin i u hp hi'
def upd (ρ : Nat → Value) (id : Nat) (v : Value) : Nat → Value := fun j => if j = id then v else ρ j
theorem upd_same (ρ : Nat → Value) (id : Nat) (v : Value) : upd ρ id v id = v := if_pos rfl
theorem upd_ne (ρ : Nat → Value) {id j : Nat} (v : Value) (h : j ≠ id) : upd ρ id v j = ρ j := if_neg h
theorem blks_agg {g : Nat} {u : Value} {us : List Value} (h : g ∈ blks1 u) (hu : u ∈ us) : g ∈ blks (.agg us.toArray) := by
  show g ∈ us.toArray.toList.flatMap blks1
  exact List.mem_flatMap.2 ⟨u, hu, h⟩
theorem RowR.move {own own' : Nat → Prop} {w w1 : World} (hw : Agree own w w1) (ho : ∀ g, g < w.heap.size → own' g → own g) {v : Value} {e : TypeId} {t : Ty} {l : List t.den} (hg : ∀ g, g ∈ blks1 v → w1.heap[g]? = w.heap[g]?) (h : RowR own w v e t l) : RowR own' w1 v e t l := by
  rcases h with ⟨⟨A, e1⟩, e2⟩ | ⟨g, c, vs, e, h1, h2, hh, h3, h5⟩
  · exact .inl ⟨⟨A, e1⟩, e2⟩
  · exact .inr ⟨g, c, vs, e, h1, h2, (hg g (by rw [e]; exact List.mem_singleton.2 rfl)).trans hh, h3, fun i x hx => (h5 i x hx).move hw ho⟩
theorem DeepR.move {own own' : Nat → Prop} {w w1 : World} (hw : Agree own w w1) (ho : ∀ g, g < w.heap.size → own' g → own g) {v : Value} {e e' : TypeId} {t : Ty} {l : List (List t.den)} {hole : Option Int} (hg : ∀ g, g ∈ blks v → w1.heap[g]? = w.heap[g]?) (h : DeepR own w v e e' t l hole) : DeepR own' w1 v e e' t l hole := by
  obtain ⟨A, us, rfl, h1, h2, h3, h4⟩ := h
  refine ⟨A, us, rfl, h1, h2, ?_, fun i x u hx hu => ?_⟩
  · rcases h3 with h3 | ⟨g, c, vs, e, k1, k2, hh, k3, k4⟩
    · exact .inl h3
    · exact .inr ⟨g, c, vs, e, k1, k2, (hg g (blks_agg (u := A) (by rw [e]; exact List.mem_singleton.2 rfl) List.mem_cons_self)).trans hh, k3, k4⟩
  · have := h4 i x u hx hu
    split at this
    · rename_i hi
      rw [if_pos hi]
      exact this
    · rename_i hi
      rw [if_neg hi]
      exact this.move hw ho (fun g q => hg g (blks_agg q (List.mem_cons_of_mem _ (List.mem_of_getElem? hu))))
/-- The slice of a row of rows. -/
theorem DeepR.head {own : Nat → Prop} {w : World} {v A : Value} {us : List Value} {e e' : TypeId} {t : Ty} {l : List (List t.den)} {hole : Option Int} (h : DeepR own w v e e' t l hole) (hv : v = .agg (A :: us).toArray) : ∃ A0 k, A = .slice A0 l.length k := by
  obtain ⟨B, vs, e1, h1, h2, h3, h4⟩ := h
  rw [e1] at hv
  obtain ⟨rfl, rfl⟩ := agg_head hv
  rcases h3 with ⟨⟨A0, e2⟩, e3⟩ | ⟨g, c, cs, e2, _⟩
  · subst e3
    exact ⟨A0, 0, e2⟩
  · exact ⟨_, _, e2⟩
theorem DeepR.head' {own : Nat → Prop} {w : World} {v A : Value} {us : List Value} {e e' : TypeId} {t : Ty} {l : List (List t.den)} {hole : Option Int} (h : DeepR own w v e e' t l hole) (hv : v = .agg (A :: us).toArray) (hl : 0 < l.length) : ∃ g k, A = .slice (some ⟨g, 0, none⟩) l.length (k + 1) := by
  obtain ⟨B, vs, e1, h1, h2, h3, h4⟩ := h
  rw [e1] at hv
  obtain ⟨rfl, rfl⟩ := agg_head hv
  rcases h3 with ⟨⟨A0, e2⟩, e3⟩ | ⟨g, c, cs, e2, _⟩
  · subst e3
    simp at hl
  · exact ⟨_, _, e2⟩
section
variable {ρ : Nat → Value} {own : Nat → Prop} {w : World}
theorem RowR.blks_eq {v : Value} {e : TypeId} {t : Ty} {l : List t.den} (h : RowR own w v e t l) : blks v = blks1 v := by
  rcases h with ⟨⟨A, e1⟩, _⟩ | ⟨g, k, vs, e1, _⟩ <;> (rw [e1]; rfl)
theorem RowR.cell {v : Value} {e : TypeId} {t : Ty} {l : List t.den} (h : RowR own w v e t l) : v.oneCell' = true ∧ v.cells = #[v] := by
  rcases h with ⟨⟨A, e1⟩, _⟩ | ⟨g, k, vs, e1, _⟩ <;> (rw [e1]; exact ⟨rfl, rfl⟩)
theorem blks_agg_iff {A : Value} {us : List Value} {g : Nat} : g ∈ blks (.agg (A :: us).toArray) ↔ g ∈ blks1 A ∨ ∃ u ∈ us, g ∈ blks1 u := by
  show g ∈ (A :: us).flatMap blks1 ↔ _
  rw [List.flatMap_cons, List.mem_append, List.mem_flatMap]
theorem blks_agg_eq (A : Value) (us : List Value) : blks (.agg (A :: us).toArray) = blks1 A ++ us.flatMap blks1 := by
  show (A :: us).flatMap blks1 = _
  rw [List.flatMap_cons]
/-- What the parts of a row of rows are. -/
theorem DeepR.parts {v : Value} {e e' : TypeId} {t : Ty} {l : List (List t.den)} {hole : Option Int} (h : DeepR own w v e e' t l hole) {i : Nat} (hi : i < l.length) :
    ∃ (g c : Nat) (vs : Array Value) (us : List Value) (u : Value), v = .agg (.slice (some ⟨g, 0, none⟩) l.length (c + 1) :: us).toArray ∧ us.length = l.length ∧ l.length ≤ c + 1 ∧ c + 1 ≤ maxLen ∧ w.heap[g]? = some (.cells vs e (0, 0)) ∧ vs.size = c + 1 ∧ us[i]? = some u ∧ (us.flatMap blks1).Nodup ∧ (∀ x ∈ us, g ∉ blks1 x) ∧
      (∀ (j : Nat) (u : Value), us[j]? = some u → hole ≠ some (j : Int) → vs[j]? = some u) ∧ (∀ (j : Nat) (x : List t.den) (u : Value), l[j]? = some x → us[j]? = some u → if hole = some (j : Int) then u = undef else RowR own w u e' t x) := by
  obtain ⟨A, us, e1, h1, h2, h3, h4⟩ := h
  rcases h3 with ⟨_, e2⟩ | ⟨g, c, vs, e2, k1, k2, hh, k3, k4⟩
  · subst e2
    simp at hi
  · subst e2
    rw [e1, blks_agg_eq, List.nodup_append] at h2
    exact ⟨g, c, vs, us, us[i], e1, h1, k1, k2, hh, k3, List.getElem?_eq_getElem (by omega), h2.2.1, fun x hx hgx => h2.2.2 g (List.mem_singleton.2 rfl) g (List.mem_flatMap.2 ⟨x, hx, hgx⟩) rfl, k4, h4⟩
end
theorem BR.move {ρ ρ' : Nat → Value} {own own' : Nat → Prop} {w w1 : World} {id : Nat} (hw : Agree own w w1) (ho : ∀ g, g < w.heap.size → own' g → own g) (hid : ρ' id = ρ id) : ∀ {b : Blk}, (match b with | .box _ cs => ∀ j, holdsL j cs = true → ρ' j = ρ j | .row _ _ _ => True | .map _ _ _ => True | .deep _ _ _ _ _ => True) →
    (∀ g, g ∈ blks (ρ id) → w1.heap[g]? = w.heap[g]?) → BR ρ own w id b → BR ρ' own' w1 id b
  | .box t cs, hr, hg, h => by
    obtain ⟨g, vs, e, hh, hv⟩ := h
    exact ⟨g, vs, hid.trans e, (hg g (in_blk (by rw [e]; rfl))).trans hh, VRs.move hw ho hr hv⟩
  | .row e t l, _, hg, h => by
    rcases h with ⟨⟨A, e1⟩, e2⟩ | ⟨g, c, vs, e, h1, h2, hh, h3, h5⟩
    · exact .inl ⟨⟨A, hid.trans e1⟩, e2⟩
    · exact .inr ⟨g, c, vs, hid.trans e, h1, h2, (hg g (in_blk (by rw [e]; rfl))).trans hh, h3, fun i x hx => (h5 i x hx).move hw ho⟩
  | .deep e e' t l hole, _, hg, h => by
    show DeepR own' w1 (ρ' id) e e' t l hole
    rw [hid]
    exact DeepR.move hw ho hg h
  | .map k v l, _, hg, h => by
    obtain ⟨g, es, cl, e, hh, h1, h2, h3⟩ := h
    exact ⟨g, es, cl, hid.trans e, (hg g (in_blk (by rw [e]; rfl))).trans hh, h1, h2, h3⟩
/-- A world that agrees, ρ turned at one label that nothing holds any more, that label's block gone. -/
theorem RelX.used {ρ : Nat → Value} {own own' : Nat → Prop} {W0 : World} {c : Cx W0} {s : St} {a : Act} {w w1 : World} (h : RelX ρ own c s a w) (id : Nat) (v : Value) (hw : Agree own w w1) (hb : Beneath c.L c.w0 w1) (ho : ∀ g, g < w.heap.size → own' g → own g)
    (hk : ∀ j b g, j ≠ id → look j s.sto = some b → g ∈ blks (ρ j) → w1.heap[g]? = w.heap[g]? ∧ own' g) (hlo : ∀ g, own' g → g < w1.heap.size) (hF : ∀ g, c.F g → own' g) : RelX (upd ρ id v) own' c (s.used id) a w1 := by
  have lk : ∀ j b, look j (s.used id).sto = some b → j ≠ id ∧ ∃ b0, look j s.sto = some b0 ∧ (match b0 with | .box t cs => b = .box t (forgetL id cs) | .row e t x => b = .row e t x | .map k v x => b = .map k v x | .deep e e' t x o => b = .deep e e' t x o) := by
    intro j b hj
    have := look_drop id _ j b hj
    exact ⟨this.1, look_forget id s.sto j b this.2⟩
  refine ⟨?_, fun t => ?_, fun j b hj => ?_, fun i j b b' g hi hj h1 h2 => ?_, fun j b g hj h1 => ?_, hlo, hF, h.fr, hb, h.defers, fun i v hp hi => h.pin i v hp (forget_pin hi)⟩
  · show (forgetL id s.env).length = _
    rw [len_forget]
    exact h.len
  · show VR _ _ _ (nth (forgetL id s.env) t) _
    rw [nth_forget]
    split
    · rw [VR]
      trivial
    · rename_i hn
      exact VR.move hw ho (fun j hj => upd_ne _ _ (fun e => hn (e ▸ hj))) (h.env t)
  · obtain ⟨hn, b0, h0, hb0⟩ := lk j b hj
    have hbr := h.sto j b0 h0
    have hgd : ∀ g, g ∈ blks (ρ j) → w1.heap[g]? = w.heap[g]? := fun g hg => (hk j b0 g hn h0 hg).1
    cases b0 with
    | box t cs =>
      subst hb0
      obtain ⟨g, vs, e, hh, hv⟩ := hbr
      exact BR.move hw ho (upd_ne _ _ hn) (fun i hi => upd_ne _ _ (fun e => by rw [e, free_forget] at hi; cases hi)) hgd ⟨g, vs, e, hh, VRs.forget id hv⟩
    | row e t x =>
      subst hb0
      exact BR.move hw ho (upd_ne _ _ hn) trivial hgd hbr
    | map k v x =>
      subst hb0
      exact BR.move hw ho (upd_ne _ _ hn) trivial hgd hbr
    | deep e e' t x o =>
      subst hb0
      exact BR.move hw ho (upd_ne _ _ hn) trivial hgd hbr
  · obtain ⟨hn, b0, h0, _⟩ := lk i b hi
    obtain ⟨hn', b0', h0', _⟩ := lk j b' hj
    rw [upd_ne _ _ hn] at h1
    rw [upd_ne _ _ hn'] at h2
    exact h.apart i j b0 b0' g h0 h0' h1 h2
  · obtain ⟨hn, b0, h0, hb0⟩ := lk j b hj
    rw [upd_ne _ _ hn] at h1
    have hbr : b.isRow = b0.isRow := by
      cases b0 <;> (subst hb0; rfl)
    rw [hbr]
    exact ⟨(hk j b0 g hn h0 h1).2, (h.owned j b0 g h0 h1).2⟩
/-- A new block under the label id. -/
theorem RelX.addG {ρ : Nat → Value} {own own' : Nat → Prop} {W0 : World} {c : Cx W0} {s : St} {a : Act} {w w1 : World} (h : RelX ρ own c s a w) (id : Nat) (v : Value) (b : Blk) (hw : Agree own w w1) (hb : Beneath c.L c.w0 w1) (ho : ∀ g, g < w.heap.size → own' g → own g)
    (hk : ∀ j b g, j ≠ id → look j s.sto = some b → g ∈ blks (ρ j) → w1.heap[g]? = w.heap[g]? ∧ own' g) (hlo : ∀ g, own' g → g < w1.heap.size) (hF : ∀ g, c.F g → own' g)
    (hn : ∀ j b g, j ≠ id → look j s.sto = some b → g ∈ blks (ρ j) → g ∉ blks v) (hv : ∀ g, g ∈ blks v → own' g ∧ (c.w0.heap.size ≤ g ∨ c.L g ∨ (gst id = true ∧ b.isRow = true ∧ c.F g))) (hbr : BR (upd ρ id v) own' w1 id b) : RelX (upd ρ id v) own' c (s.add id b) a w1 := by
  have u := h.used id v hw hb ho hk hlo hF
  refine ⟨u.len, u.env, fun j x hj => ?_, fun i j x x' g hi hj h1 h2 => ?_, fun j x g hj h1 => ?_, hlo, hF, h.fr, hb, h.defers, u.pin⟩
  · by_cases e : id = j
    · subst e
      have hj' : look id ((id, b) :: (s.used id).sto) = some x := hj
      rw [look_cons_same] at hj'
      cases hj'
      exact hbr
    · have hj' : look j ((id, b) :: (s.used id).sto) = some x := hj
      rw [look_cons_ne _ _ e] at hj'
      exact u.sto j x hj'
  · have hi' : look i ((id, b) :: (s.used id).sto) = some x := hi
    have hj' : look j ((id, b) :: (s.used id).sto) = some x' := hj
    by_cases ei : id = i
    · by_cases ej : id = j
      · exact ei.symm.trans ej
      · subst ei
        rw [look_cons_ne _ _ ej] at hj'
        rw [upd_same] at h1
        have q := look_drop id _ j x' hj'
        obtain ⟨b0, h0, _⟩ := look_forget id s.sto j x' q.2
        rw [upd_ne _ _ q.1] at h2
        exact absurd h1 (hn j b0 g q.1 h0 h2)
    · rw [look_cons_ne _ _ ei] at hi'
      by_cases ej : id = j
      · subst ej
        rw [upd_same] at h2
        have q := look_drop id _ i x hi'
        obtain ⟨b0, h0, _⟩ := look_forget id s.sto i x q.2
        rw [upd_ne _ _ q.1] at h1
        exact absurd h2 (hn i b0 g q.1 h0 h1)
      · rw [look_cons_ne _ _ ej] at hj'
        exact u.apart i j x x' g hi' hj' h1 h2
  · have hj' : look j ((id, b) :: (s.used id).sto) = some x := hj
    by_cases e : id = j
    · subst e
      rw [look_cons_same] at hj'
      cases hj'
      rw [upd_same] at h1
      exact hv g h1
    · rw [look_cons_ne _ _ e] at hj'
      exact u.owned j x g hj' h1
/-- A new block under the label id. -/
theorem RelX.addL {ρ : Nat → Value} {own own' : Nat → Prop} {W0 : World} {c : Cx W0} {s : St} {a : Act} {w w1 : World} (h : RelX ρ own c s a w) (id : Nat) (v : Value) (b : Blk) (hw : Agree own w w1) (hb : Beneath c.L c.w0 w1) (ho : ∀ g, g < w.heap.size → own' g → own g)
    (hk : ∀ j b g, j ≠ id → look j s.sto = some b → g ∈ blks (ρ j) → w1.heap[g]? = w.heap[g]? ∧ own' g) (hlo : ∀ g, own' g → g < w1.heap.size) (hF : ∀ g, c.F g → own' g)
    (hn : ∀ j b g, j ≠ id → look j s.sto = some b → g ∈ blks (ρ j) → g ∉ blks v) (hv : ∀ g, g ∈ blks v → own' g ∧ (c.w0.heap.size ≤ g ∨ c.L g)) (hbr : BR (upd ρ id v) own' w1 id b) : RelX (upd ρ id v) own' c (s.add id b) a w1 :=
  h.addG id v b hw hb ho hk hlo hF hn (fun g q => ⟨(hv g q).1, (hv g q).2.elim .inl (fun k => .inr (.inl k))⟩) hbr
theorem RelX.add {ρ : Nat → Value} {own own' : Nat → Prop} {W0 : World} {c : Cx W0} {s : St} {a : Act} {w w1 : World} (h : RelX ρ own c s a w) (id : Nat) (v : Value) (b : Blk) (hw : Agree own w w1) (hb : Beneath c.L c.w0 w1) (ho : ∀ g, g < w.heap.size → own' g → own g)
    (hk : ∀ j b g, j ≠ id → look j s.sto = some b → g ∈ blks (ρ j) → w1.heap[g]? = w.heap[g]? ∧ own' g) (hlo : ∀ g, own' g → g < w1.heap.size) (hF : ∀ g, c.F g → own' g)
    (hn : ∀ j b g, j ≠ id → look j s.sto = some b → g ∈ blks (ρ j) → g ∉ blks v) (hv : ∀ g, g ∈ blks v → own' g ∧ c.w0.heap.size ≤ g) (hbr : BR (upd ρ id v) own' w1 id b) : RelX (upd ρ id v) own' c (s.add id b) a w1 :=
  h.addL id v b hw hb ho hk hlo hF hn (fun g q => ⟨(hv g q).1, .inl (hv g q).2⟩) hbr
/-- The world has turned where nothing is owned: nowhere that was. -/
theorem RelX.grow {ρ : Nat → Value} {own : Nat → Prop} {W0 : World} {c : Cx W0} {s : St} {a : Act} {w w1 : World} (h : RelX ρ own c s a w) (hw : Agree (fun _ => False) w w1) (hb : Beneath c.L c.w0 w1) : RelX ρ own c s a w1 := by
  have hag : Agree own w w1 := ⟨hw.1, fun g hg _ => hw.2 g hg (fun q => q)⟩
  refine ⟨h.len, fun t => VR.move hag (fun _ _ q => q) (fun _ _ => rfl) (h.env t), fun id b hb => BR.move hag (fun _ _ q => q) rfl ?_ (fun g hg => hw.2 g (h.lo g (h.owned id b g hb hg).1) (fun q => q)) (h.sto id b hb), h.apart, h.owned, fun g hg => Nat.lt_of_lt_of_le (h.lo g hg) hw.1, h.base, h.fr, hb, h.defers, h.pin⟩
  cases b <;> simp
/-- A block that the call holds has turned. -/
theorem RelX.turn {ρ : Nat → Value} {own : Nat → Prop} {W0 : World} {c : Cx W0} {s : St} {a : Act} {w w1 : World} (h : RelX ρ own c s a w) {id g : Nat} {b b' : Blk} (hid : look id s.sto = some b) (hg : g ∈ blks (ρ id)) (hw : Agree own w w1) (hb : Beneath c.L c.w0 w1)
    (hk : ∀ k, k < w.heap.size → k ≠ g → w1.heap[k]? = w.heap[k]?) (hbr : BR ρ own w1 id b') (hng : gst id = false ∨ b.isRow = false := by first | exact .inr rfl | assumption) : RelX ρ own c { s with sto := setb id b' s.sto } a w1 := by
  refine ⟨h.len, fun t => VR.move hw (fun _ _ q => q) (fun _ _ => rfl) (h.env t), fun j x hj => ?_, fun i j x x' k hi hj h1 h2 => ?_, fun j x k hj h1 => ?_, fun k hk' => Nat.lt_of_lt_of_le (h.lo k hk') hw.1, h.base, h.fr, hb, h.defers, h.pin⟩
  · have hj' : look j (setb id b' s.sto) = some x := hj
    rw [look_set] at hj'
    by_cases e : j = id
    · subst e
      rw [if_pos rfl, hid] at hj'
      cases hj'
      exact hbr
    · rw [if_neg e] at hj'
      refine BR.move hw (fun _ _ q => q) rfl ?_ (fun k hk' => hk k (h.lo k (h.owned j x k hj' hk').1) (fun q => e (h.apart j id x b g hj' hid (q ▸ hk') hg))) (h.sto j x hj')
      cases x <;> simp
  · have hi' : look i (setb id b' s.sto) = some x := hi
    have hj' : look j (setb id b' s.sto) = some x' := hj
    rw [look_set] at hi' hj'
    have fi : ∃ y, look i s.sto = some y := by
      by_cases e : i = id
      · subst e
        exact ⟨b, hid⟩
      · rw [if_neg e] at hi'
        exact ⟨_, hi'⟩
    have fj : ∃ y, look j s.sto = some y := by
      by_cases e : j = id
      · subst e
        exact ⟨b, hid⟩
      · rw [if_neg e] at hj'
        exact ⟨_, hj'⟩
    obtain ⟨y, hy⟩ := fi
    obtain ⟨z, hz⟩ := fj
    exact h.apart i j y z k hy hz h1 h2
  · have hj' : look j (setb id b' s.sto) = some x := hj
    rw [look_set] at hj'
    by_cases e : j = id
    · subst e
      rw [if_pos rfl, hid] at hj'
      cases hj'
      exact ⟨(h.mine hng hid h1).1, (h.mine hng hid h1).2.elim .inl (fun q => .inr (.inl q))⟩
    · rw [if_neg e] at hj'
      exact h.owned j x k hj' h1
end Go.Proofs.Ytbaekdcacmoniaa.Pv
