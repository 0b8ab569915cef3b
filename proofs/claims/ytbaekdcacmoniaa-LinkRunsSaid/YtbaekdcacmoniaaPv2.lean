/- What the pure machine's values and states say of the model's: the relations, and how they move from world to world. -/
import Derived.Test.YtbaekdcacmoniaaPv1
import Derived.Below
import Derived.Calls
namespace Go.Proofs.Ytbaekdcacmoniaa.Pv
open Go Go.RowKit

/-- w' is w but for blocks that are owned, and new ones. -/
def Agree (own : Nat → Prop) (w w' : World) : Prop := w.heap.size ≤ w'.heap.size ∧ ∀ b, b < w.heap.size → ¬ own b → w'.heap[b]? = w.heap[b]?
theorem Agree.refl (own : Nat → Prop) (w : World) : Agree own w w := ⟨Nat.le_refl _, fun _ _ _ => rfl⟩
theorem Agree.trans {own own' : Nat → Prop} {a b c : World} (h : Agree own a b) (k : Agree own' b c) (ho : ∀ g, g < a.heap.size → own' g → own g) : Agree own a c :=
  ⟨Nat.le_trans h.1 k.1, fun g hg hn => (k.2 g (by have := h.1; omega) (fun q => hn (ho g hg q))).trans (h.2 g hg hn)⟩
/-- A function's value; from 1000000 on: what stands in an interface, or nil. -/
def funV (f : Nat) (vs : Array Value) : Value := if Nat.blt f 1000000 = true then .func (.func f) #[] vs else if vs.size = 0 then .nilIface else .iface (f - 1000000) (vs.getD 0 undef)
theorem funV_fn {f : Nat} (h : Nat.blt f 1000000 = true) (vs : Array Value) : funV f vs = .func (.func f) #[] vs := if_pos h
theorem funV_one {q : Nat} (v : Value) : funV (1000000 + q) #[v] = .iface q v := by
  unfold funV
  rw [if_neg (by simp), if_neg (by simp), Nat.add_sub_cancel_left]
  rfl
theorem funV_iface {f : Nat} (h : Nat.blt f 1000000 = false) (v : Value) : funV f #[v] = .iface (f - 1000000) v := by
  unfold funV
  rw [if_neg (by rw [h]; nofun), if_neg (by simp)]
  rfl
theorem funV_cell {f : Nat} {vs : Array Value} : (funV f vs).oneCell' = true := by
  unfold funV
  split
  · rfl
  · split <;> rfl
/-- Cells of world w read as a typed value; what is read through addresses lies in blocks that are not owned. -/
def RdC (own : Nat → Prop) (w : World) : (t : Ty) → t.den → List Value → Prop
  | .int k, n, cs => cs = [.int k n]
  | .bool, b, cs => cs = [.bool b]
  | .str, s, cs => cs = [.string s]
  | .list _ _ t, l, cs => ∃ (A : Option Addr) (c : Nat), cs = [.slice A l.length c] ∧ l.length ≤ c ∧ c ≤ maxLen ∧ (A = none → c = 0) ∧
      ∀ (i : Nat) (x : t.den), l[i]? = some x → ∃ (a : Addr) (u : List Value), A = some a ∧ ¬ own a.block ∧ a.block < w.heap.size ∧ u.length = t.sz ∧ RdC own w t x u ∧ ∀ (j : Nat) (v : Value), u[j]? = some v → w.cell? (a.add (i * t.sz + j)) = some v
  | .prod a b, p, cs => ∃ c0 c1, cs = c0 ++ c1 ∧ RdC own w a p.1 c0 ∧ RdC own w b p.2 c1
  | .unit, _, cs => cs = []
  | .tag q ag t, x, cs => ∃ u : List Value, cs = [funV (1000000 + q) (if ag = true then #[.agg u.toArray] else u.toArray)] ∧ RdC own w t x u
theorem block_add (a : Addr) (n : Nat) : (a.add n).block = a.block := by
  unfold Addr.add
  split <;> rfl
theorem Agree.cell {own : Nat → Prop} {w w' : World} (h : Agree own w w') {a : Addr} (hb : a.block < w.heap.size) (hn : ¬ own a.block) : w'.cell? a = w.cell? a := World.cell?_of_block (w := w) (h.2 _ hb hn)
theorem RdC.move {own own' : Nat → Prop} {w w' : World} (h : Agree own w w') (ho : ∀ g, g < w.heap.size → own' g → own g) : ∀ {t : Ty} {x : t.den} {cs : List Value}, RdC own w t x cs → RdC own' w' t x cs
  | .int _, _, _, q => by rw [RdC.eq_def] at q ⊢; exact q
  | .bool, _, _, q => by rw [RdC.eq_def] at q ⊢; exact q
  | .str, _, _, q => by rw [RdC.eq_def] at q ⊢; exact q
  | .list _ _ t, l, _, q => by
    rw [RdC.eq_def] at q ⊢
    obtain ⟨A, c, e, h1, h2, h3, h4⟩ := q
    refine ⟨A, c, e, h1, h2, h3, fun i x hx => ?_⟩
    obtain ⟨a, u, e, h5, h6, h7, h8, h9⟩ := h4 i x hx
    exact ⟨a, u, e, fun k => h5 (ho _ h6 k), Nat.lt_of_lt_of_le h6 h.1, h7, h8.move h ho, fun j v hj => (h.cell (by rw [block_add]; exact h6) (by rw [block_add]; exact h5)).trans (h9 j v hj)⟩
  | .prod a b, p, _, q => by
    rw [RdC.eq_def] at q ⊢
    obtain ⟨c0, c1, e, h0, h1⟩ := q
    exact ⟨c0, c1, e, h0.move h ho, h1.move h ho⟩
  | .unit, _, _, q => by rw [RdC.eq_def] at q ⊢; exact q
  | .tag _ _ t, _, _, q => by
    rw [RdC.eq_def] at q ⊢
    obtain ⟨u, e, k⟩ := q
    exact ⟨u, e, k.move h ho⟩
theorem RdC.len {own : Nat → Prop} {w : World} : ∀ {t : Ty} {x : t.den} {cs : List Value}, RdC own w t x cs → cs.length = t.sz
  | .int _, _, _, h => by rw [RdC.eq_def] at h; rw [h]; rfl
  | .bool, _, _, h => by rw [RdC.eq_def] at h; rw [h]; rfl
  | .str, _, _, h => by rw [RdC.eq_def] at h; rw [h]; rfl
  | .list _ _ _, _, _, h => by
    rw [RdC.eq_def] at h
    obtain ⟨A, c, rfl, _⟩ := h
    rfl
  | .prod a b, _, _, h => by
    rw [RdC.eq_def] at h
    obtain ⟨c0, c1, rfl, h0, h1⟩ := h
    rw [List.length_append, RdC.len h0, RdC.len h1]
    rfl
  | .unit, _, _, h => by rw [RdC.eq_def] at h; rw [h]; rfl
  | .tag _ _ _, _, _, h => by
    rw [RdC.eq_def] at h
    obtain ⟨u, rfl, _⟩ := h
    rfl

def isAggV : Value → Bool
  | .agg _ => true
  | _ => false
theorem agg_head {A B : Value} {us vs : List Value} (h : Value.agg (A :: us).toArray = Value.agg (B :: vs).toArray) : A = B ∧ us = vs := by
  have := congrArg Array.toList (Value.agg.inj h)
  simpa using this
mutual
/-- A value of the machine's is a value of the model's. ρ: where the labels lie. -/
def VR (ρ : Nat → Value) (own : Nat → Prop) (w : World) : PV → Value → Prop
  | .undef, _ => True
  | .int k n, v => v = .int k n
  | .bool b, v => v = .bool b
  | .str s, v => v = .string s
  | .nils, v => v = .slice none 0 0
  | .empt, v => ∃ A, v = .slice A 0 0
  | .zrow, v => ∃ a c, v = .slice (some a) 0 c
  | .row e t l, v => RdC own w (.list false e t) l [v]
  | .own id, v => v = ρ id ∧ isAggV v = false
  | .nilp, v => v = .pointer none
  | .ref id off, v => ∃ g, ρ id = .pointer (some ⟨g, 0, none⟩) ∧ v = .pointer (some ⟨g, off, none⟩)
  | .elem t x off, v => ∃ (a : Addr) (u : List Value), v = .pointer (some (a.add off)) ∧ ¬ own a.block ∧ a.block < w.heap.size ∧ RdC own w t x u ∧ ∀ (j : Nat) (y : Value), u[j]? = some y → w.cell? (a.add j) = some y
  | .oelem id sz i off, v => ∃ (g n c : Nat), ρ id = .slice (some ⟨g, 0, none⟩) n c ∧ i.toNat < n ∧ v = .pointer (some ⟨g, i.toNat * sz + off, none⟩)
  | .cref cs off, v => ∃ (g : Nat) (vs : Array Value) (t : TypeId), v = .pointer (some ⟨g, off, none⟩) ∧ ¬ own g ∧ g < w.heap.size ∧ w.heap[g]? = some (.cells vs t (0, 0)) ∧ VRs ρ own w cs vs.toList
  | .nilf, v => v = .nilFunc
  | .func f cs, v => ∃ vs : Array Value, v = funV f vs ∧ VRs ρ own w cs vs.toList
  | .agg cs, v => ∃ vs : Array Value, v = .agg vs ∧ VRs ρ own w cs vs.toList
  | .tuple cs, v => ∃ vs : Array Value, v = .tuple vs ∧ VRs ρ own w cs vs.toList
  | .deep id, v => ∃ us : List Value, ρ id = .agg (v :: us).toArray
  | .delem id i, v => ∃ (g n c : Nat) (us : List Value), ρ id = .agg (.slice (some ⟨g, 0, none⟩) n c :: us).toArray ∧ 0 ≤ i ∧ i.toNat < n ∧ v = .pointer (some ⟨g, i.toNat, none⟩)
  | .sub id i, v => ∃ (A : Value) (us : List Value), ρ id = .agg (A :: us).toArray ∧ 0 ≤ i ∧ i.toNat < us.length ∧ ∀ u, us[i.toNat]? = some u → u ≠ undef → v = u
def VRs (ρ : Nat → Value) (own : Nat → Prop) (w : World) : List PV → List Value → Prop
  | [], vs => vs = []
  | p :: ps, vs => ∃ v r, vs = v :: r ∧ VR ρ own w p v ∧ VRs ρ own w ps r
end
theorem VRs.len {ρ : Nat → Value} {own : Nat → Prop} {w : World} : ∀ {ps : List PV} {vs : List Value}, VRs ρ own w ps vs → vs.length = ps.length
  | [], _, h => by rw [VRs] at h; rw [h]; rfl
  | p :: ps, _, h => by
    rw [VRs] at h
    obtain ⟨v, r, rfl, _, h⟩ := h
    rw [List.length_cons, VRs.len h, List.length_cons]
/-- A label's value stays, or is a row of rows of which an element is taken out. -/
def Turns (v v' : Value) : Prop := v' = v ∨ ∃ A us us', v = .agg (A :: us).toArray ∧ v' = .agg (A :: us').toArray ∧ us'.length = us.length ∧ ∀ (i : Nat) (u : Value), us'[i]? = some u → us[i]? = some u ∨ u = undef
mutual
theorem VR.turns {ρ ρ' : Nat → Value} {own own' : Nat → Prop} {w w1 : World} (hw : Agree own w w1) (ho : ∀ g, g < w.heap.size → own' g → own g) : ∀ {p : PV} {v : Value}, (∀ id, holds id p = true → Turns (ρ id) (ρ' id)) → VR ρ own w p v → VR ρ' own' w1 p v
  | .undef, _, _, _ => by rw [VR]; trivial
  | .int _ _, _, _, h => by rw [VR] at h ⊢; exact h
  | .bool _, _, _, h => by rw [VR] at h ⊢; exact h
  | .str _, _, _, h => by rw [VR] at h ⊢; exact h
  | .nils, _, _, h => by rw [VR] at h ⊢; exact h
  | .empt, _, _, h => by rw [VR] at h ⊢; exact h
  | .zrow, _, _, h => by rw [VR] at h ⊢; exact h
  | .row _ _ _, _, _, h => by rw [VR] at h ⊢; exact h.move hw ho
  | .own id, v, hr, h => by
    rw [VR] at h ⊢
    rcases hr id (by simp [holds]) with e | ⟨A, us, us', e1, e2, _⟩
    · rw [e]
      exact h
    · rw [h.1, e1] at h
      exact absurd h.2 (by nofun)
  | .nilp, _, _, h => by rw [VR] at h ⊢; exact h
  | .ref id off, _, hr, h => by
    rw [VR] at h ⊢
    rcases hr id (by simp [holds]) with e | ⟨A, us, us', e1, e2, _⟩
    · rw [e]
      exact h
    · obtain ⟨g, e3, _⟩ := h
      rw [e1] at e3
      cases e3
  | .elem _ _ _, _, _, h => by
    rw [VR] at h ⊢
    obtain ⟨a, u, e, h1, h2, h3, h4⟩ := h
    exact ⟨a, u, e, fun k => h1 (ho _ h2 k), Nat.lt_of_lt_of_le h2 hw.1, h3.move hw ho, fun j y hj => (hw.cell (by rw [block_add]; exact h2) (by rw [block_add]; exact h1)).trans (h4 j y hj)⟩
  | .oelem id _ _ _, _, hr, h => by
    rw [VR] at h ⊢
    rcases hr id (by simp [holds]) with e | ⟨A, us, us', e1, e2, _⟩
    · rw [e]
      exact h
    · obtain ⟨g, n, c, e3, _⟩ := h
      rw [e1] at e3
      cases e3
  | .nilf, _, _, h => by rw [VR] at h ⊢; exact h
  | .deep id, _, hr, h => by
    rw [VR] at h ⊢
    rcases hr id (by simp [holds]) with e | ⟨A, us, us', e1, e2, _⟩
    · rw [e]
      exact h
    · obtain ⟨us2, e3⟩ := h
      rw [e1] at e3
      rw [e2, (agg_head e3).1]
      exact ⟨us', rfl⟩
  | .delem id _, _, hr, h => by
    rw [VR] at h ⊢
    rcases hr id (by simp [holds]) with e | ⟨A, us, us', e1, e2, _⟩
    · rw [e]
      exact h
    · obtain ⟨g, n, c, us2, e3, h1⟩ := h
      rw [e1] at e3
      rw [e2, (agg_head e3).1]
      exact ⟨g, n, c, us', rfl, h1⟩
  | .sub id i, _, hr, h => by
    rw [VR] at h ⊢
    rcases hr id (by simp [holds]) with e | ⟨A, us, us', e1, e2, hl, hs⟩
    · rw [e]
      exact h
    · obtain ⟨B, vs, e3, h0, h1, h2⟩ := h
      rw [e1] at e3
      obtain ⟨rfl, rfl⟩ := agg_head e3
      exact ⟨_, us', e2, h0, by omega, fun u hu hne => h2 u ((hs _ u hu).resolve_right hne) hne⟩
  | .cref cs _, _, hr, h => by
    rw [VR] at h ⊢
    obtain ⟨g, vs, t, e, h1, h2, h3, h⟩ := h
    exact ⟨g, vs, t, e, fun k => h1 (ho _ h2 k), Nat.lt_of_lt_of_le h2 hw.1, (hw.2 g h2 h1).trans h3, VRs.turns hw ho (fun id hi => hr id (by rw [holds]; exact hi)) h⟩
  | .func f cs, _, hr, h => by
    rw [VR] at h ⊢
    obtain ⟨vs, e, h⟩ := h
    exact ⟨vs, e, VRs.turns hw ho (fun id hi => hr id (by rw [holds]; exact hi)) h⟩
  | .agg cs, _, hr, h => by
    rw [VR] at h ⊢
    obtain ⟨vs, e, h⟩ := h
    exact ⟨vs, e, VRs.turns hw ho (fun id hi => hr id (by rw [holds]; exact hi)) h⟩
  | .tuple cs, _, hr, h => by
    rw [VR] at h ⊢
    obtain ⟨vs, e, h⟩ := h
    exact ⟨vs, e, VRs.turns hw ho (fun id hi => hr id (by rw [holds]; exact hi)) h⟩
theorem VRs.turns {ρ ρ' : Nat → Value} {own own' : Nat → Prop} {w w1 : World} (hw : Agree own w w1) (ho : ∀ g, g < w.heap.size → own' g → own g) : ∀ {ps : List PV} {vs : List Value}, (∀ id, holdsL id ps = true → Turns (ρ id) (ρ' id)) → VRs ρ own w ps vs → VRs ρ' own' w1 ps vs
  | [], _, _, h => by rw [VRs] at h ⊢; exact h
  | p :: ps, _, hr, h => by
    rw [VRs] at h ⊢
    obtain ⟨v, r, e, h1, h2⟩ := h
    exact ⟨v, r, e, VR.turns hw ho (fun id hi => hr id (by rw [holdsL, hi]; rfl)) h1, VRs.turns hw ho (fun id hi => hr id (by rw [holdsL, hi, Bool.or_true])) h2⟩
end
theorem VR.move {ρ ρ' : Nat → Value} {own own' : Nat → Prop} {w w1 : World} (hw : Agree own w w1) (ho : ∀ g, g < w.heap.size → own' g → own g) {p : PV} {v : Value} (hr : ∀ id, holds id p = true → ρ' id = ρ id) (h : VR ρ own w p v) : VR ρ' own' w1 p v := h.turns hw ho (fun id hi => .inl (hr id hi))
theorem VRs.move {ρ ρ' : Nat → Value} {own own' : Nat → Prop} {w w1 : World} (hw : Agree own w w1) (ho : ∀ g, g < w.heap.size → own' g → own g) {ps : List PV} {vs : List Value} (hr : ∀ id, holdsL id ps = true → ρ' id = ρ id) (h : VRs ρ own w ps vs) : VRs ρ' own' w1 ps vs := h.turns hw ho (fun id hi => .inl (hr id hi))
/-- A lent pointer as the call hands it over. -/
def lentV (b : Nat) (v : Value) : Value :=
  match Nat.div b 1000000 with
  | 0 => v
  | q + 1 => .iface q v
theorem unLent_sound {ρ : Nat → Value} {own : Nat → Prop} {w : World} {b : Nat} {p : PV} {v : Value} {id off : Nat} (h : unLent b p = .ref id off) (hv : VR ρ own w p v) : ∃ g, ρ id = .pointer (some ⟨g, 0, none⟩) ∧ v = lentV b (.pointer (some ⟨g, off, none⟩)) := by
  unfold unLent at h
  unfold lentV
  split at h
  · rename_i e
    rw [e]
    rw [h, VR] at hv
    exact hv
  · rename_i q e
    rw [e]
    split at h
    · split at h
      · rename_i f p' hf
        have hf' : f = 1000000 + q := by simpa using hf
        subst hf'
        subst h
        rw [VR] at hv
        obtain ⟨vs, e1, h1⟩ := hv
        rw [VRs] at h1
        obtain ⟨v', r, e2, h2, h3⟩ := h1
        rw [VRs] at h3
        subst h3
        rw [VR] at h2
        obtain ⟨g, k1, k2⟩ := h2
        refine ⟨g, k1, ?_⟩
        obtain ⟨l⟩ := vs
        have e2' : l = [v'] := e2
        subst e2'
        rw [e1, ← k2]
        exact funV_one v'
      · cases h
    · cases h
theorem lentP_sound {ρ : Nat → Value} {own : Nat → Prop} {w : World} {b : Nat} {id off g : Nat} (h : ρ id = .pointer (some ⟨g, 0, none⟩)) : VR ρ own w (lentP b (.ref id off)) (lentV b (.pointer (some ⟨g, off, none⟩))) := by
  unfold lentP lentV
  split
  · rename_i e
    rw [e, VR]
    exact ⟨g, h, rfl⟩
  · rename_i q e
    rw [e, VR]
    refine ⟨#[.pointer (some ⟨g, off, none⟩)], ?_, ?_⟩
    · exact (funV_one _).symm
    · rw [VRs]
      refine ⟨_, _, rfl, ?_, by rw [VRs]⟩
      rw [VR]
      exact ⟨g, h, rfl⟩
theorem unLent_undef (b : Nat) : unLent b .undef = .undef := by
  unfold unLent
  split <;> rfl
theorem unLent_pin {b i o : Nat} {p : PV} (h : unLent b p = .ref (pinL i) o) : pinAt i p = true := by
  unfold unLent at h
  split at h
  · rw [h]
    simp [pinAt]
  · split at h
    · split at h
      · rw [h]
        simp [pinAt]
      · cases h
    · cases h
theorem lentV_inj {b g k : Nat} (h : lentV b (.pointer (some ⟨g, 0, none⟩)) = lentV b (.pointer (some ⟨k, 0, none⟩))) : g = k := by
  unfold lentV at h
  split at h <;> (cases h; rfl)
end Go.Proofs.Ytbaekdcacmoniaa.Pv
