/- Rows of rows: an element is taken out, another one is laid in. -/
import Derived.Test.YtbaekdcacmoniaaPvM
namespace Go.Proofs.Ytbaekdcacmoniaa.Pv
open Go Go.RowKit

structure Eqv (s m : St) : Prop where
  env : s.env = m.env
  sto : ∀ id, look id s.sto = look id m.sto
theorem Eqv.refl (s : St) : Eqv s s := ⟨rfl, fun _ => rfl⟩
theorem Eqv.trans {a b c : St} (h : Eqv a b) (k : Eqv b c) : Eqv a c := ⟨h.env.trans k.env, fun id => (h.sto id).trans (k.sto id)⟩
theorem Eqv.symm {a b : St} (h : Eqv a b) : Eqv b a := ⟨h.env.symm, fun id => (h.sto id).symm⟩
theorem RelX.congr {ρ : Nat → Value} {own : Nat → Prop} {W0 : World} {c : Cx W0} {s m : St} {a : Act} {w : World} (h : RelX ρ own c s a w) (e : Eqv s m) : RelX ρ own c m a w :=
  ⟨by rw [← e.env]; exact h.len, by rw [← e.env]; exact h.env, fun id b hb => h.sto id b ((e.sto id).trans hb), fun i j x y g hi hj => h.apart i j x y g ((e.sto i).trans hi) ((e.sto j).trans hj), fun id b g hb => h.owned id b g ((e.sto id).trans hb), h.lo, h.base, h.fr, h.below, h.defers, by rw [← e.env]; exact h.pin⟩
theorem look_dropb (k id : Nat) : ∀ (l : List (Nat × Blk)), look id (dropb k l) = if id = k then none else look id l
  | [] => by simp [dropb, look]
  | (j, c) :: r => by
    rw [dropb]
    by_cases hj : Nat.beq j k = true
    · have e : j = k := Nat.eq_of_beq_eq_true hj
      rw [if_pos hj, look_dropb k id r]
      by_cases h : id = k
      · rw [if_pos h, if_pos h]
      · rw [if_neg h, if_neg h, look, if_neg (fun q => h (by rw [← e]; exact (Nat.eq_of_beq_eq_true q).symm))]
    · rw [if_neg hj, look, look, look_dropb k id r]
      by_cases h : id = k
      · subst h
        rw [if_pos rfl, if_neg hj]
        simp
      · rw [if_neg h, if_neg h]
theorem forgetL_id (id : Nat) : ∀ {l : List PV}, holdsL id l = false → forgetL id l = l
  | [], _ => rfl
  | x :: r, h => by
    rw [holdsL, Bool.or_eq_false_iff] at h
    rw [forgetL, if_neg (by rw [h.1]; exact Bool.false_ne_true), forgetL_id id h.2]
def forgetBlk (id : Nat) : Blk → Blk
  | .box t cs => .box t (forgetL id cs)
  | .row e t l => .row e t l
  | .map k v l => .map k v l
  | .deep e e' t l o => .deep e e' t l o
theorem look_forgetB (id j : Nat) : ∀ l : List (Nat × Blk), look j (forgetB id l) = (look j l).map (forgetBlk id)
  | [] => rfl
  | (i, .box t cs) :: r => by
    rw [forgetB, look, look]
    split
    · rfl
    · exact look_forgetB id j r
  | (i, .row e t l) :: r => by
    rw [forgetB, look, look]
    split
    · rfl
    · exact look_forgetB id j r
  | (i, .map k v l) :: r => by
    rw [forgetB, look, look]
    split
    · rfl
    · exact look_forgetB id j r
  | (i, .deep e e' t l o) :: r => by
    rw [forgetB, look, look]
    split
    · rfl
    · exact look_forgetB id j r
theorem forgetL_idem (id : Nat) (l : List PV) : forgetL id (forgetL id l) = forgetL id l := forgetL_id id (free_forget id l)
theorem forgetBlk_idem (id : Nat) (b : Blk) : forgetBlk id (forgetBlk id b) = forgetBlk id b := by
  cases b with
  | box t cs => simp only [forgetBlk, forgetL_idem]
  | _ => rfl
/-- A label used up and laid anew. -/
theorem readd (s : St) (d : Nat) (b b' : Blk) : Eqv (((s.add d b).used d).add d b') (s.add d b') := by
  refine ⟨?_, fun j => ?_⟩
  · show forgetL d (forgetL d (forgetL d s.env)) = forgetL d s.env
    rw [forgetL_idem, forgetL_idem]
  · show look j ((d, b') :: dropb d (forgetB d (dropb d (forgetB d ((d, b) :: dropb d (forgetB d s.sto)))))) = look j ((d, b') :: dropb d (forgetB d s.sto))
    by_cases e : d = j
    · subst e
      rw [look_cons_same, look_cons_same]
    · have e' : ¬ j = d := fun q => e q.symm
      rw [look_cons_ne _ _ e, look_cons_ne _ _ e, look_dropb, look_dropb, if_neg e', if_neg e', look_forgetB, look_dropb, if_neg e', look_forgetB, look_cons_ne _ _ e, look_dropb, if_neg e', look_forgetB]
      cases look j s.sto with
      | none => rfl
      | some b => simp only [Option.map_some, forgetBlk_idem]
section
variable {R : Type} {r : R} {ρ : Nat → Value} {own : Nat → Prop} {W0 : World} {c : Cx W0} {w w1 : World} {s : St} {a : Act} {P : Program}
mutual
/-- A label turns from one row of rows to another with the same slice; nobody holds it as a row. -/
theorem VR.opened {ρ' : Nat → Value} {id : Nat} {A : Value} {us us' : List Value} (h1 : ρ id = .agg (A :: us).toArray) (h2 : ρ' id = .agg (A :: us').toArray) (hn : ∀ j, j ≠ id → ρ' j = ρ j) : ∀ {p : PV} {v : Value}, VR ρ own w p v → VR ρ' own w (cool id .undef (.deep id) p) v
  | .own j, v, h => by
    rw [Pv.cool]
    split
    · rw [VR]
      trivial
    · rename_i e
      rw [VR] at h ⊢
      rw [hn j (by simpa using e)]
      exact h
  | .ref j o, v, h => by
    rw [Pv.cool] <;> first
      | (rw [VR] at h ⊢
         by_cases e : j = id
         · obtain ⟨g, e1, _⟩ := h
           rw [e, h1] at e1
           cases e1
         · rw [hn j e]
           exact h)
      | nofun
  | .oelem j z i o, v, h => by
    rw [Pv.cool]
    split
    · rw [VR]
      trivial
    · rename_i e
      rw [VR] at h ⊢
      rw [hn j (by simpa using e)]
      exact h
  | .deep j, v, h => by
    rw [Pv.cool]
    split
    · rename_i e
      have : j = id := by simpa using e
      subst this
      rw [VR] at h ⊢
      obtain ⟨us2, e2⟩ := h
      rw [h1] at e2
      obtain ⟨rfl, _⟩ := agg_head e2
      exact ⟨us', h2⟩
    · rename_i e
      rw [VR] at h ⊢
      rw [hn j (by simpa using e)]
      exact h
  | .delem j i, v, h => by
    rw [Pv.cool] <;> first
      | (rw [VR] at h ⊢
         by_cases e : j = id
         · obtain ⟨g, n, c, us2, e2, h3, h4⟩ := h
           rw [e, h1] at e2
           have e3 := (agg_head e2).1
           rw [e, h2, e3]
           exact ⟨g, n, c, us', rfl, h3, h4⟩
         · rw [hn j e]
           exact h)
      | nofun
  | .sub j i, v, h => by
    rw [Pv.cool]
    split
    · rw [VR]
      trivial
    · rename_i e
      rw [VR] at h ⊢
      rw [hn j (by simpa using e)]
      exact h
  | .cref cs _, _, h => by
    rw [Pv.cool]
    rw [VR] at h ⊢
    obtain ⟨g, vs, t, e, k1, k2, k3, h⟩ := h
    exact ⟨g, vs, t, e, k1, k2, k3, VRs.opened h1 h2 hn h⟩
  | .func f cs, _, h => by
    rw [Pv.cool]
    rw [VR] at h ⊢
    obtain ⟨vs, e, h⟩ := h
    exact ⟨vs, e, VRs.opened h1 h2 hn h⟩
  | .agg cs, _, h => by
    rw [Pv.cool]
    rw [VR] at h ⊢
    obtain ⟨vs, e, h⟩ := h
    exact ⟨vs, e, VRs.opened h1 h2 hn h⟩
  | .tuple cs, _, h => by
    rw [Pv.cool]
    rw [VR] at h ⊢
    obtain ⟨vs, e, h⟩ := h
    exact ⟨vs, e, VRs.opened h1 h2 hn h⟩
  | .undef, _, _ => by rw [Pv.cool, VR] <;> first | trivial | nofun
  | .int _ _, _, h => by rw [Pv.cool] <;> first | exact h.move (Agree.refl _ _) (fun _ _ q => q) (fun k hk => by cases hk) | nofun
  | .bool _, _, h => by rw [Pv.cool] <;> first | exact h.move (Agree.refl _ _) (fun _ _ q => q) (fun k hk => by cases hk) | nofun
  | .str _, _, h => by rw [Pv.cool] <;> first | exact h.move (Agree.refl _ _) (fun _ _ q => q) (fun k hk => by cases hk) | nofun
  | .nils, _, h => by rw [Pv.cool] <;> first | exact h.move (Agree.refl _ _) (fun _ _ q => q) (fun k hk => by cases hk) | nofun
  | .zrow, _, h => by rw [Pv.cool] <;> first | exact h.move (Agree.refl _ _) (fun _ _ q => q) (fun k hk => by cases hk) | nofun
  | .empt, _, h => by rw [Pv.cool] <;> first | exact h.move (Agree.refl _ _) (fun _ _ q => q) (fun k hk => by cases hk) | nofun
  | .row _ _ _, _, h => by rw [Pv.cool] <;> first | exact h.move (Agree.refl _ _) (fun _ _ q => q) (fun k hk => by cases hk) | nofun
  | .nilp, _, h => by rw [Pv.cool] <;> first | exact h.move (Agree.refl _ _) (fun _ _ q => q) (fun k hk => by cases hk) | nofun
  | .elem _ _ _, _, h => by rw [Pv.cool] <;> first | exact h.move (Agree.refl _ _) (fun _ _ q => q) (fun k hk => by cases hk) | nofun
  | .nilf, _, h => by rw [Pv.cool] <;> first | exact h.move (Agree.refl _ _) (fun _ _ q => q) (fun k hk => by cases hk) | nofun
theorem VRs.opened {ρ' : Nat → Value} {id : Nat} {A : Value} {us us' : List Value} (h1 : ρ id = .agg (A :: us).toArray) (h2 : ρ' id = .agg (A :: us').toArray) (hn : ∀ j, j ≠ id → ρ' j = ρ j) : ∀ {ps : List PV} {vs : List Value}, VRs ρ own w ps vs → VRs ρ' own w (coolL id .undef (.deep id) ps) vs
  | [], _, h => by
    rw [VRs] at h
    rw [coolL, VRs]
    exact h
  | p :: ps, _, h => by
    rw [VRs] at h
    obtain ⟨v, r, e, k1, k2⟩ := h
    rw [coolL, VRs]
    exact ⟨v, r, e, VR.opened h1 h2 hn k1, VRs.opened h1 h2 hn k2⟩
end
theorem upd_others (ρ : Nat → Value) (id : Nat) (v : Value) : ∀ j, j ≠ id → upd ρ id v j = ρ j := fun _ h => upd_ne _ _ h
/-- A row of rows turns, and its label with it; its slice stays. -/
theorem RelX.turnDeep (h : RelX ρ own c s a w) {id : Nat} {A : Value} {us us' : List Value} {b1 : Blk} (e : ρ id = .agg (A :: us).toArray) (hw : Agree own w w1) (hb : Beneath c.L c.w0 w1)
    (hk : ∀ j x g, j ≠ id → look j s.sto = some x → g ∈ blks (ρ j) → w1.heap[g]? = w.heap[g]?)
    (hg : ∀ g, g ∈ blks (.agg (A :: us').toArray) → own g ∧ (c.w0.heap.size ≤ g ∨ c.L g) ∧ ∀ j x, j ≠ id → look j s.sto = some x → g ∉ blks (ρ j))
    (hbr : BR (upd ρ id (.agg (A :: us').toArray)) own w1 id b1) :
    RelX (upd ρ id (.agg (A :: us').toArray)) own c (s.deepAs id b1) a w1 := by
  have lk : ∀ j x, look j (setb id b1 (coolB id .undef (.deep id) s.sto)) = some x → (j = id ∧ x = b1) ∨ (j ≠ id ∧ ∃ b0, look j s.sto = some b0 ∧ (match b0 with | .box t' cs => x = .box t' (coolL id .undef (.deep id) cs) | .row e t l => x = .row e t l | .map k v l => x = .map k v l | .deep e e' t l o => x = .deep e e' t l o)) := by
    intro j x hj
    rw [look_set] at hj
    by_cases q : j = id
    · rw [if_pos q] at hj
      cases hq : look id (coolB id .undef (.deep id) s.sto) with
      | none => rw [hq] at hj; cases hj
      | some y => rw [hq] at hj; exact .inl ⟨q, (Option.some.inj hj).symm⟩
    · rw [if_neg q] at hj
      exact .inr ⟨q, look_cool id _ _ s.sto j x hj⟩
  refine ⟨?_, fun i => ?_, fun j x hj => ?_, fun i j x x' g hi hj k1 k2 => ?_, fun j x g hj k1 => ?_, fun g q => Nat.lt_of_lt_of_le (h.lo g q) hw.1, h.base, h.fr, hb, h.defers, fun i v hp hi => h.pin i v hp (cool_pin ⟨by nofun, by nofun⟩ ⟨by nofun, by nofun⟩ hi)⟩
  · show (coolL _ _ _ _).length = _
    rw [len_cool]
    exact h.len
  · show VR _ _ _ (nth (coolL _ _ _ _) i) _
    rw [nth_cool]
    exact (VR.opened e (upd_same _ _ _) (upd_others _ _ _) (h.env i)).move hw (fun _ _ q => q) (fun _ _ => rfl)
  · rcases lk j x hj with ⟨rfl, rfl⟩ | ⟨hne, b0, h0, hb0⟩
    · exact hbr
    · have hbr0 := h.sto j b0 h0
      have hgd : ∀ g, g ∈ blks (ρ j) → w1.heap[g]? = w.heap[g]? := fun g q => hk j b0 g hne h0 q
      cases b0 with
      | box t' cs =>
        subst hb0
        obtain ⟨g, vs, e1, hh, hv⟩ := hbr0
        exact ⟨g, vs, (upd_ne _ _ hne).trans e1, (hgd g (in_blk (by rw [e1]; rfl))).trans hh, (VRs.opened e (upd_same _ _ _) (upd_others _ _ _) hv).move hw (fun _ _ q => q) (fun _ _ => rfl)⟩
      | row _ _ _ =>
        subst hb0
        exact BR.move hw (fun _ _ q => q) (upd_ne _ _ hne) trivial hgd hbr0
      | map _ _ _ =>
        subst hb0
        exact BR.move hw (fun _ _ q => q) (upd_ne _ _ hne) trivial hgd hbr0
      | deep _ _ _ _ _ =>
        subst hb0
        exact BR.move hw (fun _ _ q => q) (upd_ne _ _ hne) trivial hgd hbr0
  · rcases lk i x hi with ⟨rfl, rfl⟩ | ⟨ni, y, hy, _⟩
    · rcases lk j x' hj with ⟨rfl, _⟩ | ⟨nj, z, hz, _⟩
      · rfl
      · rw [upd_same] at k1
        rw [upd_ne _ _ nj] at k2
        exact absurd k2 ((hg g k1).2.2 j z nj hz)
    · rw [upd_ne _ _ ni] at k1
      rcases lk j x' hj with ⟨rfl, rfl⟩ | ⟨nj, z, hz, _⟩
      · rw [upd_same] at k2
        exact absurd k1 ((hg g k2).2.2 i y ni hy)
      · rw [upd_ne _ _ nj] at k2
        exact h.apart i j y z g hy hz k1 k2
  · rcases lk j x hj with ⟨rfl, rfl⟩ | ⟨nj, y, hy, hb0⟩
    · rw [upd_same] at k1
      exact ⟨(hg g k1).1, (hg g k1).2.1.elim .inl (fun q => .inr (.inl q))⟩
    · rw [upd_ne _ _ nj] at k1
      have hbr : x.isRow = y.isRow := by
        cases y <;> (subst hb0; rfl)
      rw [hbr]
      exact h.owned j y g hy k1
theorem blks1_nodup (v : Value) : (blks1 v).Nodup := by
  unfold blks1
  split <;> simp
/-- Of apart blocks, the one at a place is nowhere else. -/
theorem nodup_at {us : List Value} (h : (us.flatMap blks1).Nodup) {i j : Nat} {u v : Value} (hi : us[i]? = some u) (hj : us[j]? = some v) {g : Nat} (hu : g ∈ blks1 u) (hv : g ∈ blks1 v) : i = j := by
  induction us generalizing i j with
  | nil => simp at hi
  | cons x us ih =>
    rw [List.flatMap_cons, List.nodup_append] at h
    cases i with
    | zero =>
      cases j with
      | zero => rfl
      | succ j =>
        simp at hi hj
        subst hi
        exact absurd rfl (h.2.2 g hu g (List.mem_flatMap.2 ⟨v, List.mem_of_getElem? hj, hv⟩))
    | succ i =>
      cases j with
      | zero =>
        simp at hi hj
        subst hj
        exact absurd rfl (h.2.2 g hv g (List.mem_flatMap.2 ⟨u, List.mem_of_getElem? hi, hu⟩))
      | succ j =>
        simp at hi hj
        rw [ih h.2.1 hi hj]
theorem nodup_set : ∀ {us : List Value} (_ : (us.flatMap blks1).Nodup) (i : Nat) (v : Value) (_ : ∀ g, g ∈ blks1 v → ∀ (j : Nat) (u : Value), us[j]? = some u → j ≠ i → g ∉ blks1 u), ((us.set i v).flatMap blks1).Nodup
  | [], _, _, _, _ => by simp
  | x :: us, h, 0, v, hv => by
    rw [List.set_cons_zero, List.flatMap_cons, List.nodup_append]
    rw [List.flatMap_cons, List.nodup_append] at h
    refine ⟨blks1_nodup v, h.2.1, fun g hg g' hg' e => ?_⟩
    subst e
    obtain ⟨u, hu, hu'⟩ := List.mem_flatMap.1 hg'
    obtain ⟨j, hj⟩ := List.mem_iff_getElem?.1 hu
    exact hv g hg (j + 1) u (by simpa using hj) (by omega) hu'
  | x :: us, h, i + 1, v, hv => by
    rw [List.set_cons_succ, List.flatMap_cons, List.nodup_append]
    rw [List.flatMap_cons, List.nodup_append] at h
    refine ⟨h.1, nodup_set h.2.1 i v (fun g hg j u hj hne => hv g hg (j + 1) u (by simpa using hj) (by omega)), fun g hg g' hg' e => ?_⟩
    subst e
    obtain ⟨u, hu, hu'⟩ := List.mem_flatMap.1 hg'
    obtain ⟨j, hj⟩ := List.mem_iff_getElem?.1 hu
    rw [List.getElem?_set] at hj
    split at hj
    · rename_i hij
      split at hj
      · cases hj
        exact hv g hu' 0 x (by simp) (by omega) hg
      · cases hj
    · exact h.2.2 g hg g (List.mem_flatMap.2 ⟨u, List.mem_of_getElem? hj, hu'⟩) rfl
/-- A row of rows gets a hole. -/
theorem RelX.hole (h : RelX ρ own c s a w) {id i : Nat} {A : Value} {us : List Value} {b b1 : Blk} (hl : look id s.sto = some b) (e : ρ id = .agg (A :: us).toArray)
    (hg : ∀ g, g ∈ blks (.agg (A :: us.set i undef).toArray) → g ∈ blks (ρ id)) (hbr : BR (upd ρ id (.agg (A :: us.set i undef).toArray)) own w id b1) (hng : gst id = false ∨ b.isRow = false := by first | exact .inr rfl | assumption) :
    RelX (upd ρ id (.agg (A :: us.set i undef).toArray)) own c { s with sto := setb id b1 s.sto } a w ∧ ∀ j, Turns (ρ j) (upd ρ id (.agg (A :: us.set i undef).toArray) j) := by
  have ht : ∀ j, Turns (ρ j) (upd ρ id (.agg (A :: us.set i undef).toArray) j) := by
    intro j
    by_cases q : j = id
    · rw [q, upd_same]
      refine .inr ⟨A, us, _, e, rfl, by rw [List.length_set], fun k u hu => ?_⟩
      rw [List.getElem?_set] at hu
      split at hu
      · split at hu
        · exact .inr (Option.some.inj hu).symm
        · cases hu
      · exact .inl hu
    · rw [upd_ne _ _ q]
      exact .inl rfl
  refine ⟨?_, ht⟩
  have lk : ∀ j x, look j (setb id b1 s.sto) = some x → (j = id ∧ x = b1) ∨ (j ≠ id ∧ look j s.sto = some x) := by
    intro j x hj
    rw [look_set] at hj
    by_cases q : j = id
    · rw [if_pos q, hl] at hj
      exact .inl ⟨q, (Option.some.inj hj).symm⟩
    · rw [if_neg q] at hj
      exact .inr ⟨q, hj⟩
  have ag := Agree.refl own w
  refine ⟨h.len, fun t => (h.env t).turns ag (fun _ _ q => q) (fun j _ => ht j), fun j x hj => ?_, fun i j x x' g hi hj k1 k2 => ?_, fun j x g hj k1 => ?_, h.lo, h.base, h.fr, h.below, h.defers, h.pin⟩
  · rcases lk j x hj with ⟨rfl, rfl⟩ | ⟨hne, h0⟩
    · exact hbr
    · have hb0 := h.sto j x h0
      cases x with
      | box t' cs =>
        obtain ⟨g, vs, e1, hh, hv⟩ := hb0
        exact ⟨g, vs, (upd_ne _ _ hne).trans e1, hh, hv.turns ag (fun _ _ q => q) (fun j _ => ht j)⟩
      | row _ _ _ => exact BR.move ag (fun _ _ q => q) (upd_ne _ _ hne) trivial (fun _ _ => rfl) hb0
      | map _ _ _ => exact BR.move ag (fun _ _ q => q) (upd_ne _ _ hne) trivial (fun _ _ => rfl) hb0
      | deep _ _ _ _ _ => exact BR.move ag (fun _ _ q => q) (upd_ne _ _ hne) trivial (fun _ _ => rfl) hb0
  · rcases lk i x hi with ⟨rfl, rfl⟩ | ⟨ni, hy⟩
    · rcases lk j x' hj with ⟨rfl, _⟩ | ⟨nj, hz⟩
      · rfl
      · rw [upd_same] at k1
        rw [upd_ne _ _ nj] at k2
        exact h.apart i j b x' g hl hz (hg g k1) k2
    · rw [upd_ne _ _ ni] at k1
      rcases lk j x' hj with ⟨rfl, rfl⟩ | ⟨nj, hz⟩
      · rw [upd_same] at k2
        exact h.apart i j x b g hy hl k1 (hg g k2)
      · rw [upd_ne _ _ nj] at k2
        exact h.apart i j x x' g hy hz k1 k2
  · rcases lk j x hj with ⟨rfl, rfl⟩ | ⟨nj, hy⟩
    · rw [upd_same] at k1
      exact ⟨(h.mine hng hl (hg g k1)).1, (h.mine hng hl (hg g k1)).2.elim .inl (fun q => .inr (.inl q))⟩
    · rw [upd_ne _ _ nj] at k1
      exact h.owned j x g hy k1
/-- An element is taken out. -/
theorem RelX.openD (h : RelX ρ own c s a w) {id d : Nat} {e e' : TypeId} {t : Ty} {l : List (List t.den)} (hl : look id s.sto = some (.deep e e' t l none)) (hd : d ≠ id) {i : Nat} (hi : i < l.length) (j : Int) (hj : (i : Int) = j) :
    ∃ ρ' u, RelX ρ' own c (s.opened d id (.row e' t (l.getD i [])) (.deep e e' t l (some j))) a w ∧ ρ' d = u ∧ u ≠ undef ∧ (∀ p v, Pv.holds d p = false → VR ρ own w p v → VR ρ' own w p v) ∧
      (∀ q, q ∈ blks u → own q ∧ (c.w0.heap.size ≤ q ∨ c.L q)) ∧ ∃ (g n : Nat) (us : List Value), ρ id = .agg (.slice (some ⟨g, 0, none⟩) l.length n :: us).toArray ∧ us[i]? = some u := by
  subst hj
  obtain ⟨g, k, vs, us, u, e1, h1, h2, h3, hh, h4, hu, h5, h6, h7, h8⟩ := (h.sto id _ hl).parts hi
  have hx : l[i]? = some l[i] := List.getElem?_eq_getElem hi
  have hrow := h8 i _ u hx hu
  rw [if_neg (by simp)] at hrow
  have hown : ∀ q, q ∈ blks (ρ id) → own q ∧ (c.w0.heap.size ≤ q ∨ c.L q) := fun q hq => h.mine (.inr rfl) hl hq
  have hsub : ∀ q, q ∈ blks (.agg (.slice (some ⟨g, 0, none⟩) l.length (k + 1) :: us.set i undef).toArray) → q ∈ blks (ρ id) := by
    intro q hq
    rw [blks_agg_iff] at hq
    rw [e1, blks_agg_iff]
    rcases hq with hq | ⟨x, hx, hq⟩
    · exact .inl hq
    · rcases List.mem_or_eq_of_mem_set hx with hx | rfl
      · exact .inr ⟨x, hx, hq⟩
      · cases hq
  obtain ⟨ht, htr⟩ : RelX (upd ρ id (.agg (.slice (some ⟨g, 0, none⟩) l.length (k + 1) :: us.set i undef).toArray)) own c { s with sto := setb id (.deep e e' t l (some (i : Int))) s.sto } a w ∧ ∀ j, Turns (ρ j) (upd ρ id (.agg (.slice (some ⟨g, 0, none⟩) l.length (k + 1) :: us.set i undef).toArray) j) := by
    refine h.hole hl e1 hsub ?_
    refine ⟨_, _, upd_same _ _ _, by rw [List.length_set]; exact h1, ?_, .inr ⟨g, k, vs, rfl, h2, h3, hh, h4, fun j v hj hne => ?_⟩, fun j x v hx hj => ?_⟩
    · rw [upd_same, blks_agg_eq, List.nodup_append]
      refine ⟨blks1_nodup _, nodup_set h5 i undef (fun q hq => by cases hq), fun q hq q' hq' eq => ?_⟩
      subst eq
      obtain ⟨x, hx, hx'⟩ := List.mem_flatMap.1 hq'
      have hqg : q = g := List.mem_singleton.1 hq
      subst hqg
      rcases List.mem_or_eq_of_mem_set hx with hx | rfl
      · exact h6 x hx hx'
      · cases hx'
    · have hji : i ≠ j := fun e => hne (by rw [e])
      rw [List.getElem?_set, if_neg hji] at hj
      exact h7 j v hj (by simp)
    · rw [List.getElem?_set] at hj
      by_cases hij : i = j
      · subst hij
        rw [if_pos rfl, if_pos (by omega)] at hj
        rw [if_pos rfl]
        exact (Option.some.inj hj).symm
      · rw [if_neg hij] at hj
        rw [if_neg (by intro q; exact hij (by have := Option.some.inj q; omega))]
        have := h8 j x v hx hj
        rw [if_neg (by simp)] at this
        exact this
  refine ⟨upd (upd ρ id (.agg (.slice (some ⟨g, 0, none⟩) l.length (k + 1) :: us.set i undef).toArray)) d u, u, ht.addL d u _ (Agree.refl _ _) ht.below (fun _ _ q => q) (fun j x q _ hj hq => ⟨rfl, (ht.owned j x q hj hq).1⟩) ht.lo ht.base (fun j x q nj hj hq hq2 => ?_) (fun q hq => ?_) ?_, upd_same _ _ _, ?_, fun p v hp hv => ?_, fun q hq => by rw [hrow.blks_eq] at hq; exact hown q (by rw [e1, blks_agg_iff]; exact .inr ⟨u, List.mem_of_getElem? hu, hq⟩), g, k + 1, us, e1, hu⟩
  · rw [hrow.blks_eq] at hq2
    by_cases ej : j = id
    · subst ej
      rw [upd_same, blks_agg_iff] at hq
      rcases hq with hq | ⟨x, hx, hq⟩
      · have : q = g := List.mem_singleton.1 hq
        subst this
        exact h6 u (List.mem_of_getElem? hu) hq2
      · obtain ⟨m, hm⟩ := List.mem_iff_getElem?.1 hx
        rw [List.getElem?_set] at hm
        split at hm
        · split at hm
          · cases hm
            cases hq
          · cases hm
        · rename_i hne
          exact hne (nodup_at h5 hu hm hq2 hq)
    · rw [upd_ne _ _ ej] at hq
      have hj' : look j (setb id (.deep e e' t l (some (i : Int))) s.sto) = some x := hj
      rw [look_set, if_neg ej] at hj'
      exact ej (h.apart j id x _ q hj' hl hq (by rw [e1, blks_agg_iff]; exact .inr ⟨u, List.mem_of_getElem? hu, hq2⟩))
  · rw [hrow.blks_eq] at hq
    exact hown q (by rw [e1, blks_agg_iff]; exact .inr ⟨u, List.mem_of_getElem? hu, hq⟩)
  · have hgd : l.getD i [] = l[i] := by rw [List.getD_eq_getElem?_getD, hx]; rfl
    rw [hgd]
    show RowR own w (upd _ d u d) e' t l[i]
    rw [upd_same]
    exact hrow
  · rcases hrow with ⟨⟨A, e2⟩, _⟩ | ⟨g', k', vs', e2, _⟩ <;> (rw [e2]; nofun)
  · exact (hv.turns (Agree.refl _ _) (fun _ _ q => q) (fun j _ => htr j)).move (Agree.refl _ _) (fun _ _ q => q) (fun j hj => upd_ne _ _ (fun q => by rw [q, hp] at hj; cases hj))
theorem contents_opened {d id : Nat} {b1 b2 : Blk} {e : TypeId} {τ : Ty} {y : PV} {m : List τ.den} (hm : contents s e τ y = some m) (hd : Pv.holds d y = false) (hid : ∀ e t l, look id s.sto ≠ some (.row e t l)) : contents (s.opened d id b1 b2) e τ y = some m := by
  cases y with
  | own k =>
    unfold contents at hm ⊢
    simp only at hm ⊢
    split at hm
    · rename_i e' t' l' hk
      have hkd : k ≠ d := by
        intro q
        rw [q] at hd
        simp [Pv.holds] at hd
      have hki : k ≠ id := by
        intro q
        rw [q] at hk
        exact hid _ _ _ hk
      have : look k (s.opened d id b1 b2).sto = some (.row e' t' l') := by
        show look k ((d, b1) :: dropb d (forgetB d (setb id b2 s.sto))) = _
        rw [look_cons_ne _ _ (fun q => hkd q.symm), look_dropb, if_neg hkd, look_forgetB, look_set, if_neg hki, hk]
        rfl
      rw [this]
      exact hm
    · cases hm
  | _ => exact hm
theorem does_append_sub (h : RelX ρ own c s a w) {t ty e : TypeId} {τ : Ty} {b d id : Nat} (he : elemT P t = some (e, τ, b)) {i : Int} {y : PV} {e0 e' : TypeId} {τ' : Ty} {l : List (List τ'.den)} {l0 m : List τ.den} (hl : look id s.sto = some (.deep e0 e' τ' l none)) (hs : sameRow e τ e' τ' (l.getD i.toNat []) = some l0) (hm : contents s e τ y = some m) (hd : d ≠ id) (hdy : Pv.holds d y = false) {vx vy : Value} (hx : VR ρ own w (.sub id i) vx) (hy : VR ρ own w y vy) (hb : (l0.length + m.length) * b ≤ 140737488355328)
    {K : PV → St → Option R} (hK : K (.own d) (s.opened d id (.row e τ (l0 ++ m)) (.deep e0 e' τ' l (some i))) = some r) : Does P c a w (do pure (.value (← Builtin.append_ #[t, t] ty #[vx, vy]))) K r := by
  rw [VR] at hx
  obtain ⟨A, us, e1, h0, hlt, hcl⟩ := hx
  obtain ⟨B, us2, e2, hlen, _⟩ : DeepR own w (ρ id) e0 e' τ' l none := h.sto id _ hl
  rw [e1] at e2
  obtain ⟨_, e3⟩ := agg_head e2
  subst e3
  obtain ⟨ρ', u, h1, h2, hne, hv, hmu, g, n, us3, e4, hu⟩ := h.openD hl hd (i := i.toNat) (by omega) i (Int.toNat_of_nonneg h0)
  rw [e1] at e4
  obtain ⟨_, e5⟩ := agg_head e4
  subst e5
  have hvx : vx = ρ' d := (hcl u hu hne).trans h2.symm
  subst hvx
  obtain ⟨rfl, rfl, q⟩ := sameRow_eq hs
  have := eq_of_heq q
  subst this
  have hlook : look d (s.opened d id (.row e' τ' (l.getD i.toNat [])) (.deep e0 e' τ' l (some i))).sto = some (.row e' τ' (l.getD i.toNat [])) := look_cons_same _ _ _
  have hcont := contents_opened (b1 := .row e' τ' (l.getD i.toNat [])) (b2 := .deep e0 e' τ' l (some i)) hm hdy (by intro a b c q; rw [hl] at q; cases q)
  obtain ⟨ρ2, own2, p, v, s2, w2, k1, k2, k3, k4⟩ := does_append_own (R := PV × St) (ty := ty) (d := d) h1 he hlook (fun g hg => hmu g (by rw [h2] at hg; exact hg)) hcont (hv y vy hdy hy) hb (K := fun p s => some (p, s)) rfl
  cases k1
  exact ⟨ρ2, own2, _, v, _, w2, hK, k2.congr (readd _ _ _ _), k3, k4⟩
theorem contents_add {d : Nat} {b : Blk} {e : TypeId} {τ : Ty} {y : PV} {m : List τ.den} (hm : contents s e τ y = some m) (hd : Pv.holds d y = false) : contents (s.add d b) e τ y = some m := by
  cases y with
  | own k =>
    unfold contents at hm ⊢
    simp only at hm ⊢
    have hne : d ≠ k := fun e => by rw [e] at hd; simp [Pv.holds] at hd
    have : look k (s.add d b).sto = (look k s.sto).map (forgetBlk d) := by
      show look k ((d, b) :: dropb d (forgetB d s.sto)) = _
      rw [look_cons_ne _ _ hne, look_dropb, if_neg (fun q => hne q.symm), look_forgetB]
    rw [this]
    split at hm
    · rename_i e' t' l hl
      rw [hl]
      exact hm
    · cases hm
  | _ => exact hm
/-- A row of one's own under a new label: whoever holds the old one holds a row that is not there. -/
theorem RelX.moved (h : RelX ρ own c s a w) {id d : Nat} {e : TypeId} {τ : Ty} {l : List τ.den} (hng : gst id = false) (hl : look id s.sto = some (.row e τ l)) : RelX (upd ρ d (ρ id)) own c (St.add ⟨s.env, dropb id s.sto⟩ d (.row e τ l)) a w := by
  have hd : RelX ρ own c ⟨s.env, dropb id s.sto⟩ a w := by
    have lk : ∀ j x, look j (dropb id s.sto) = some x → j ≠ id ∧ look j s.sto = some x := fun j x hj => look_drop id _ j x hj
    exact ⟨h.len, h.env, fun j x hj => h.sto j x (lk j x hj).2, fun i j x y g hi hj => h.apart i j x y g (lk i x hi).2 (lk j y hj).2, fun j x g hj => h.owned j x g (lk j x hj).2, h.lo, h.base, h.fr, h.below, h.defers, h.pin⟩
  refine hd.addL d (ρ id) _ (Agree.refl _ _) hd.below (fun _ _ q => q) (fun j x g _ hj hg => ⟨rfl, (hd.owned j x g hj hg).1⟩) hd.lo hd.base (fun j x g _ hj hg q => ?_) (fun g hg => h.mine (.inl hng) hl hg) ?_
  · have hj' := look_drop id _ j x hj
    exact hj'.1 (h.apart j id x _ g hj'.2 hl hg q)
  · show RowR own w (upd ρ d (ρ id) d) e τ l
    rw [upd_same]
    exact h.sto id _ hl
theorem does_append_moved (h : RelX ρ own c s a w) {t ty e : TypeId} {τ : Ty} {b d id : Nat} (hng : gst id = false) (he : elemT P t = some (e, τ, b)) {y : PV} {l m : List τ.den} (hl : look id s.sto = some (.row e τ l)) (hm : contents ⟨s.env, dropb id s.sto⟩ e τ y = some m) (hd : Pv.holds d y = false) {vy : Value} (hy : VR ρ own w y vy) (hb : (l.length + m.length) * b ≤ 140737488355328)
    {K : PV → St → Option R} (hK : K (.own d) (St.add ⟨s.env, dropb id s.sto⟩ d (.row e τ (l ++ m))) = some r) : Does P c a w (do pure (.value (← Builtin.append_ #[t, t] ty #[ρ id, vy]))) K r := by
  have h1 := h.moved (d := d) hng hl
  have hlook : look d (St.add ⟨s.env, dropb id s.sto⟩ d (.row e τ l)).sto = some (.row e τ l) := look_cons_same _ _ _
  have hy' : VR (upd ρ d (ρ id)) own w y vy := hy.move (Agree.refl _ _) (fun _ _ q => q) (fun j hj => upd_ne _ _ (fun e => by rw [e, hd] at hj; cases hj))
  obtain ⟨ρ2, own2, p, v, s2, w2, k1, k2, k3, k4⟩ := does_append_own (R := PV × St) (ty := ty) (d := d) h1 he hlook (fun g hg => by rw [upd_same] at hg; exact h.mine (.inl hng) hl hg) (contents_add hm hd) hy' hb (K := fun p s => some (p, s)) rfl
  rw [upd_same] at k4
  cases k1
  exact ⟨ρ2, own2, _, v, _, w2, hK, k2.congr (readd _ _ _ _), k3, k4⟩
theorem does_close (h : RelX ρ own c s a w) {t : TypeId} {id : Nat} {i : Int} {y : PV} {K : PV → St → Option R} (hK : evClose P s t id i y (fun s' => K .undef s') = some r) {vx vy : Value} (hx : VR ρ own w (.delem id i) vx) (hy : VR ρ own w y vy) :
    Does P c a w (do Instr.storeAt t vx vy; pure .skip) K r := by
  unfold evClose at hK
  split at hK
  · rename_i k e e' τ l hole hl
    split at hK
    · rename_i E1 T1 m hlk
      split at hK
      · rename_i hsz
        rw [Bool.and_eq_true] at hsz
        have hngk : gst k = false := by simpa using hsz.2
        have hn : sizeT P t = some 1 := by simpa using hsz.1
        split at hK
        · rename_i m' hm
          obtain ⟨rfl, rfl, q⟩ := sameRow_eq hm
          have := eq_of_heq q
          subst this
          have hkid : k ≠ id := by
            intro q
            rw [q, hl] at hlk
            cases hlk
          rw [VR] at hx
          obtain ⟨g, n, kk, us0, e1, hi0, hlt, rfl⟩ := hx
          obtain ⟨A0, k', eh⟩ := DeepR.head (h.sto id _ hl) e1
          cases eh
          obtain ⟨g2, kp, vs, us, u, e2, h1, h2, h3, hh, h4, hu, h5, h6, h7, h8⟩ := (h.sto id _ hl).parts hlt
          rw [e1] at e2
          obtain ⟨e3, e4⟩ := agg_head e2
          cases e3
          subst e4
          rw [VR] at hy
          obtain ⟨rfl, _⟩ := hy
          have hrow : RowR own w (ρ k) E1 T1 m := h.sto k _ hlk
          obtain ⟨hone, hcells⟩ := hrow.cell
          have key : K .undef ((s.used k).deepAs id (.deep e E1 T1 (l.set i.toNat m) none)) = some r ∧ (hole = none ∨ hole = some (i.toNat : Int)) := by
            cases hole with
            | none => exact ⟨hK, .inl rfl⟩
            | some j =>
              simp only at hK
              split at hK
              · rename_i hij
                subst hij
                exact ⟨hK, .inr (by rw [Int.toNat_of_nonneg hi0])⟩
              · cases hK
          obtain ⟨hK, hole'⟩ := key
          have hne : ∀ j : Nat, j ≠ i.toNat → hole ≠ some (j : Int) := by
            intro j hj q
            rcases hole' with e | e
            · rw [e] at q
              cases q
            · rw [e] at q
              exact hj (by have := Option.some.inj q; omega)
          have hblk : g ∈ blks (ρ id) := by rw [e1, blks_agg_iff]; exact .inl (List.mem_singleton.2 rfl)
          have how := h.mine (.inr rfl) hl hblk
          have hgk : g ∉ blks (ρ k) := fun q => hkid (h.apart k id _ _ g hlk hl q hblk)
          have hvl : vs.toList.length = kp + 1 := by simpa using h4
          have hrun := run_storeCells_at (P := P) g i.toNat e [ρ k] 0 vs w hh (by simp; omega) (by intro v hv; rw [List.mem_singleton.1 hv]; exact hone)
          rw [Nat.add_zero] at hrun
          have hag : Agree own w (w.setRow g (vs.toList.take i.toNat ++ [ρ k] ++ vs.toList.drop (i.toNat + [ρ k].length)).toArray) :=
            ⟨by simp, fun q _ hq => setRow_other w g q _ (fun q' => hq (q' ▸ how.1))⟩
          have hused : RelX (upd ρ k (ρ k)) own c (s.used k) a w := h.used k (ρ k) (Agree.refl _ _) h.below (fun _ _ q => q) (fun j x g _ hj hg => ⟨rfl, (h.owned j x g hj hg).1⟩) h.lo h.base
          have hupd : upd ρ k (ρ k) = ρ := by
            funext j
            by_cases q : j = k
            · rw [q, upd_same]
            · rw [upd_ne _ _ q]
          rw [hupd] at hused
          have lk : ∀ j x, look j (s.used k).sto = some x → j ≠ k ∧ ∃ b0, look j s.sto = some b0 := by
            intro j x hj
            have q := look_drop k _ j x hj
            obtain ⟨b0, h0, _⟩ := look_forget k s.sto j x q.2
            exact ⟨q.1, b0, h0⟩
          refine ⟨_, own, .undef, undef, _, _, hK, hused.turnDeep (us' := us0.set i.toNat (ρ k)) e1 hag ?_ (fun j x q nj hj hq => ?_) (fun q hq => ?_) ?_, by rw [VR]; trivial, .inr ⟨?_, rfl⟩⟩
          · refine h.below.trans (L' := fun k => k = g) ⟨rfl, rfl, rfl, by simp, fun k _ hk => setRow_other w g k _ hk⟩ (fun k hk q => ?_)
            subst q
            rcases how.2 with q | q
            · omega
            · exact q
          · obtain ⟨_, b0, h0⟩ := lk j x hj
            exact setRow_other w g q _ (fun e => nj (h.apart j id _ _ q h0 hl hq (e ▸ hblk)))
          · rw [blks_agg_iff] at hq
            have fid : q ∈ blks (ρ id) → own q ∧ (c.w0.heap.size ≤ q ∨ c.L q) ∧ ∀ j x, j ≠ id → look j (s.used k).sto = some x → q ∉ blks (ρ j) := fun hq => by
              have := h.mine (.inr rfl) hl hq
              exact ⟨this.1, this.2, fun j x nj hj hq' => by
                obtain ⟨_, b0, h0⟩ := lk j x hj
                exact nj (h.apart j id _ _ q h0 hl hq' hq)⟩
            rcases hq with hq | ⟨x, hx, hq⟩
            · exact fid (by rw [e1, blks_agg_iff]; exact .inl hq)
            · rcases List.mem_or_eq_of_mem_set hx with hx | rfl
              · exact fid (by rw [e1, blks_agg_iff]; exact .inr ⟨x, hx, hq⟩)
              · rw [← hrow.blks_eq] at hq
                have := h.mine (.inl hngk) hlk hq
                exact ⟨this.1, this.2, fun j x nj hj hq' => by
                  obtain ⟨nk, b0, h0⟩ := lk j x hj
                  exact nk (h.apart j k _ _ q h0 hlk hq' hq)⟩
          · refine ⟨_, _, upd_same _ _ _, by simpa using h1, ?_, .inr ⟨g, kp, _, by simp, by simpa using h2, h3, setRow_heap w g vs _ e _ hh, by simp; omega, fun j v hj _ => ?_⟩, fun j x v hx hj => ?_⟩
            · rw [upd_same, blks_agg_eq, List.nodup_append]
              refine ⟨blks1_nodup _, nodup_set h5 i.toNat (ρ k) (fun q hq j v hj hne hq' => ?_), fun q hq q' hq' eq => ?_⟩
              · rw [← hrow.blks_eq] at hq
                exact hkid (h.apart k id _ _ q hlk hl hq (by rw [e1, blks_agg_iff]; exact .inr ⟨v, List.mem_of_getElem? hj, hq'⟩))
              · subst eq
                obtain ⟨x, hx, hx'⟩ := List.mem_flatMap.1 hq'
                have hqg : q = g := List.mem_singleton.1 hq
                subst hqg
                rcases List.mem_or_eq_of_mem_set hx with hx | rfl
                · exact h6 x hx hx'
                · exact hgk (by rw [hrow.blks_eq]; exact hx')
            · rw [← Array.getElem?_toList]
              rw [get_patch _ _ _ _ (by simp; omega)]
              rw [List.getElem?_set] at hj
              by_cases hij : i.toNat = j
              · subst hij
                rw [if_pos rfl, if_pos (by omega)] at hj
                rw [if_pos (by simp), Nat.sub_self]
                exact hj
              · rw [if_neg hij] at hj
                rw [if_neg (by simp; omega), Array.getElem?_toList]
                exact h7 j v hj (hne j (fun q => hij q.symm))
            · rw [if_neg (by simp)]
              rw [List.getElem?_set] at hj hx
              by_cases hij : i.toNat = j
              · subst hij
                rw [if_pos rfl, if_pos (by omega)] at hj
                rw [if_pos rfl, if_pos (by omega)] at hx
                cases hj
                cases hx
                exact hrow.move hag (fun _ _ q => q) (fun q hq => setRow_other w g q _ (fun e => hgk (by rw [hrow.blks_eq, ← e]; exact hq)))
              · rw [if_neg hij] at hj hx
                have := h8 j x v hx hj
                rw [if_neg (hne j (fun q => hij q.symm))] at this
                exact this.move hag (fun _ _ q => q) (fun q hq => setRow_other w g q _ (fun e => h6 v (List.mem_of_getElem? hj) (e ▸ hq)))
          · simp [Instr.storeAt, Instr.sureAddr, storeVar, hcells, run_sizeOf_of hn, hrun]
        · cases hK
      · cases hK
    · cases hK
  · cases hK
theorem does_slice (h : RelX ρ own c s a w) {t : TypeId} {d : Nat} {x : PV} {lo hi : Option Operand} {K : PV → St → Option R} (hK : evSlice P s d t x (lo.map s.ev) (hi.map s.ev) K = some r) {vx : Value} (hx : VR ρ own w x vx) :
    Does P c a w (do pure (.value (← Instr.sliceAt t vx (lo.map a.eval) (hi.map a.eval) ((none : Option Operand).map a.eval)))) K r := by
  show Does P c a w (do pure (.value (← Instr.sliceAt t vx (lo.map a.eval) (hi.map a.eval) none))) K r
  have vl := VR_opt h lo
  have vh := VR_opt h hi
  unfold evSlice at hK
  split at hK
  · rename_i hu
    split at hK
    · rename_i b
      rw [VR] at hx
      subst hx
      obtain ⟨l, u, hK, h1, h2, hb⟩ := run_sliceBounds_of (P := P) (w := w) (q := false) (len := b.size) (cap := b.size) (Nat.le_refl _) vl.1 vl.2 vh.1 vh.2 hK
      refine Does.value hK h (v := .string (b.extract l u)) (by rw [VR]; simp) ?_
      simp [Instr.sliceAt, Instr.slice, run_underlying hu, hb]
    · cases hK
  · rename_i e' hu
    split at hK
    · split at hK
      case isFalse => cases hK
      rename_i hz0
      obtain ⟨z, hz⟩ := Option.isSome_iff_exists.1 hz0
      rw [VR] at hx
      subst hx
      obtain ⟨x', y', hK, h1, h2, hb⟩ := run_sliceBounds_of (P := P) (w := w) (q := true) (len := 0) (cap := 0) (Nat.le_refl _) vl.1 vl.2 vh.1 vh.2 hK
      have hy0 : y' = 0 := by omega
      have hx0 : x' = 0 := by omega
      subst hy0 hx0
      exact Does.value hK h (v := .slice none 0 0) (by rw [VR]) (run_sliceAt_slice hu hz hb)
    · rename_i e τ l
      split at hK
      · rename_i hst
        obtain ⟨e2, hu2, hz⟩ := stride_info hst
        have hx0 := hx
        rw [VR] at hx0
        obtain ⟨A, k, rfl, hlk, _⟩ := RdC_list hx0
        obtain ⟨x', y', hK, h1, h2, hb⟩ := run_sliceBounds_of (P := P) (w := w) (q := true) (len := l.length) (cap := k) hlk vl.1 vl.2 vh.1 vh.2 hK
        obtain ⟨A', k', e3, _, hv⟩ := Sr_take hx h1 h2
        cases e3
        exact Does.value hK h (by simpa using hv) (run_sliceAt_slice hu2 hz hb)
      · cases hK
    · rename_i id
      split at hK
      · rename_i e τ l hl hlo
        split at hK
        · rename_i hst
          rw [Bool.and_eq_true] at hst
          have hng : gst id = false := by simpa using hst.2
          obtain ⟨e2, hu2, hz⟩ := stride_info hst.1
          rw [VR] at hx
          obtain ⟨rfl, _⟩ := hx
          have hK2 : (bound 0 l.length (hi.map s.ev) l.length fun h => bound 0 h (none : Option PV) 0 fun x => if x = 0 then K (.own d) (St.add ⟨s.env, dropb id s.sto⟩ d (.row e τ (l.take h.toNat))) else none) = some r := hK
          have h1m := h.moved (d := d) hng hl
          have hmine2 : ∀ q, q ∈ blks (upd ρ d (ρ id) d) → own q ∧ (c.w0.heap.size ≤ q ∨ c.L q) := fun q hq => by
            rw [upd_same] at hq
            exact h.mine (.inl hng) hl hq
          have hl1 : look d (St.add ⟨s.env, dropb id s.sto⟩ d (.row e τ l)).sto = some (.row e τ l) := look_cons_same _ _ _
          generalize hs2 : St.add ⟨s.env, dropb id s.sto⟩ d (.row e τ l) = s2 at h1m hl1
          have heq : ∀ b', Eqv ((s2.used d).add d b') (St.add ⟨s.env, dropb id s.sto⟩ d b') := fun b' => by rw [← hs2]; exact readd _ _ _ _
          rw [show ρ id = upd ρ d (ρ id) d from (upd_same _ _ _).symm]
          generalize upd ρ d (ρ id) = ρ2 at h1m hmine2
          rcases (h1m.sto d _ hl1).elems with ⟨rfl, A, e1⟩ | ⟨g, k, cur, us, e1, h1, h2, hh, h3, h4, hel⟩
          · obtain ⟨x', y', hK2, q1, q2, hb⟩ := run_sliceBounds_of (P := P) (w := w) (q := true) (len := ([] : List τ.den).length) (cap := 0) (Nat.le_refl _) (ρ := ρ) (own := own) (vl := lo.map a.eval) (by intro p hp; cases hp) (fun _ => vl.2 hlo) vh.1 vh.2 hK2
            have hy0 : y' = 0 := by simpa using q2
            have hx0 : x' = 0 := by omega
            subst hy0 hx0
            rw [if_pos (by rfl)] at hK2
            have hused : RelX (upd ρ2 d undef) own c (s2.used d) a w := h1m.used d undef (Agree.refl _ _) h1m.below (fun _ _ q => q) (fun j x g _ hj hg => ⟨rfl, (h1m.owned j x g hj hg).1⟩) h1m.lo h1m.base
            refine Does.value hK2 (ρ' := upd (upd ρ2 d undef) d (.slice A 0 0)) (own' := own) (w' := w) (RelX.congr (hused.add d _ _ (Agree.refl _ _) hused.below (fun _ _ q => q) (fun j x g _ hj hg => ⟨rfl, (hused.owned j x g hj hg).1⟩) hused.lo hused.base (fun j x g _ hj hg q => by cases A <;> cases q) (fun g q => by cases A <;> cases q) (show BR (upd (upd ρ2 d undef) d (.slice A 0 0)) own w d (.row e τ (([] : List τ.den).take ((0 : Nat) : Int).toNat)) from Or.inl ⟨⟨A, upd_same _ _ _⟩, rfl⟩)) (heq _)) (v := .slice A 0 0) VR_own_new ?_
            rw [e1]
            exact run_sliceAt_slice hu2 hz hb
          · obtain ⟨x', y', hK2, q1, q2, hb⟩ := run_sliceBounds_of (P := P) (w := w) (q := true) (len := l.length) (cap := k + 1) h1 (ρ := ρ) (own := own) (vl := lo.map a.eval) (by intro p hp; cases hp) (fun _ => vl.2 hlo) vh.1 vh.2 hK2
            split at hK2
            · rename_i hx0
              have hx0' : x' = 0 := by omega
              subst hx0'
              have hblk : g ∈ blks (ρ2 d) := in_blk (by rw [e1]; rfl)
              have hrun := run_sliceAt_slice (P := P) (w := w) hu2 hz (A := some ⟨g, 0, none⟩) hb
              rw [if_neg (by omega), Nat.zero_mul, Option.map_some, Addr.add_zero', Nat.sub_zero, Nat.sub_zero, ← e1] at hrun
              have hmul : y' * τ.sz ≤ l.length * τ.sz := Nat.mul_le_mul_right _ q2
              refine Does.value hK2 ((h1m.renew hl1 (hmine2 _ hblk) hblk (Nat.le_refl _) rfl rfl rfl (fun _ _ _ => rfl) (v := .slice (some ⟨g, 0, none⟩) y' (k + 1)) (fun q hq => List.mem_singleton.1 hq) ?_).congr (heq _)) VR_own_new hrun
              have hlen : (l.take (y' : Int).toNat).length = y' := by simp; omega
              refine BR.of_elems (g := g) (k := k + 1) (us := us.take (y' * τ.sz)) ⟨by rw [hlen, List.length_take, hel.1]; omega, fun i y hy => ?_⟩ (by rw [upd_same, hlen]) (by rw [hlen]; omega) h2 hh h3 (by rw [List.length_take, hel.1, ← h4, List.take_take])
              have hyl : l[i]? = some y ∧ i < y' := by
                rw [List.getElem?_take] at hy
                split at hy
                · rename_i hi
                  exact ⟨hy, by simpa using hi⟩
                · cases hy
              have := hel.2 i y hyl.1
              have hm : (i + 1) * τ.sz ≤ y' * τ.sz := Nat.mul_le_mul_right _ hyl.2
              rw [Nat.add_mul, Nat.one_mul] at hm
              rw [List.drop_take, List.take_take, Nat.min_eq_left (by omega)]
              exact this
            · cases hK2
        · cases hK
      · rename_i e τ l p hl hlo
        split at hK
        · rename_i hst
          rw [Bool.and_eq_true] at hst
          have hng : gst id = false := by simpa using hst.2
          obtain ⟨e2, hu2, hz⟩ := stride_info hst.1
          rw [VR] at hx
          obtain ⟨rfl, _⟩ := hx
          obtain ⟨own', hc, ho, hv⟩ := h.cool id
          have hv := hv hng e τ l hl
          have hx0 := hv
          rw [VR] at hx0
          obtain ⟨A, k, e1, hlk, _⟩ := RdC_list hx0
          obtain ⟨x', y', hK, h1, h2, hb⟩ := run_sliceBounds_of (P := P) (w := w) (q := true) (len := l.length) (cap := k) hlk vl.1 vl.2 vh.1 vh.2 hK
          obtain ⟨A', k', e3, _, hv'⟩ := Sr_take hv h1 h2
          rw [e1] at e3
          cases e3
          rw [e1]
          exact Does.value hK hc (by simpa using hv') (run_sliceAt_slice hu2 hz hb)
        · cases hK
      · cases hK
    · cases hK
  · cases hK
end
end Go.Proofs.Ytbaekdcacmoniaa.Pv
