/- Rows of rows: an element is taken out, another one is laid in. -/
import Derived.Test.YtionphbdphbpnaaGreatPvM
namespace Go.Proofs.YtionphbdphbpnaaGreat.Pv
open Go Go.RowKit

section
variable {R : Type} {r : R} {ρ : Nat → Value} {own : Nat → Prop} {c : Cx} {w w1 : World} {s : St} {a : Act} {P : Program}
mutual
/-- A label turns from one row of rows to another with the same slice; nobody holds it as a row. -/
theorem VR.opened {ρ' : Nat → Value} {id : Nat} {A : Value} {us us' : List Value} (h1 : ρ id = .agg (A :: us).toArray) (h2 : ρ' id = .agg (A :: us').toArray) (hn : ∀ j, j ≠ id → ρ' j = ρ j) : ∀ {p : PV} {v : Value}, VR ρ own w p v → VR ρ' own w (cool id .undef (.deep id) p) v
  | .own j, v, h => by
    rw [Pv.cool]
    split
    · rw [VR]
      trivial
    · rename_i e
      rw [VR] at h ⊢
      rw [hn j (by simpa using e)]
      exact h
  | .ref j o, v, h => by
    rw [Pv.cool] <;> first
      | (rw [VR] at h ⊢
         by_cases e : j = id
         · obtain ⟨g, e1, _⟩ := h
           rw [e, h1] at e1
           cases e1
         · rw [hn j e]
           exact h)
      | nofun
  | .oelem j z i o, v, h => by
    rw [Pv.cool]
    split
    · rw [VR]
      trivial
    · rename_i e
      rw [VR] at h ⊢
      rw [hn j (by simpa using e)]
      exact h
  | .deep j, v, h => by
    rw [Pv.cool]
    split
    · rename_i e
      have : j = id := by simpa using e
      subst this
      rw [VR] at h ⊢
      obtain ⟨us2, e2⟩ := h
      rw [h1] at e2
      obtain ⟨rfl, _⟩ := agg_head e2
      exact ⟨us', h2⟩
    · rename_i e
      rw [VR] at h ⊢
      rw [hn j (by simpa using e)]
      exact h
  | .delem j i, v, h => by
    rw [Pv.cool] <;> first
      | (rw [VR] at h ⊢
         by_cases e : j = id
         · obtain ⟨g, n, c, us2, e2, h3, h4⟩ := h
           rw [e, h1] at e2
           have e3 := (agg_head e2).1
           rw [e, h2, e3]
           exact ⟨g, n, c, us', rfl, h3, h4⟩
         · rw [hn j e]
           exact h)
      | nofun
  | .cref cs _, _, h => by
    rw [Pv.cool]
    rw [VR] at h ⊢
    obtain ⟨g, vs, t, e, k1, k2, k3, h⟩ := h
    exact ⟨g, vs, t, e, k1, k2, k3, VRs.opened h1 h2 hn h⟩
  | .func f cs, _, h => by
    rw [Pv.cool]
    rw [VR] at h ⊢
    obtain ⟨vs, e, h⟩ := h
    exact ⟨vs, e, VRs.opened h1 h2 hn h⟩
  | .agg cs, _, h => by
    rw [Pv.cool]
    rw [VR] at h ⊢
    obtain ⟨vs, e, h⟩ := h
    exact ⟨vs, e, VRs.opened h1 h2 hn h⟩
  | .tuple cs, _, h => by
    rw [Pv.cool]
    rw [VR] at h ⊢
    obtain ⟨vs, e, h⟩ := h
    exact ⟨vs, e, VRs.opened h1 h2 hn h⟩
  | .undef, _, _ => by rw [Pv.cool, VR] <;> first | trivial | nofun
  | .int _ _, _, h => by rw [Pv.cool] <;> first | exact h.move (Agree.refl _ _) (fun _ _ q => q) (fun k hk => by cases hk) | nofun
  | .bool _, _, h => by rw [Pv.cool] <;> first | exact h.move (Agree.refl _ _) (fun _ _ q => q) (fun k hk => by cases hk) | nofun
  | .str _, _, h => by rw [Pv.cool] <;> first | exact h.move (Agree.refl _ _) (fun _ _ q => q) (fun k hk => by cases hk) | nofun
  | .nils, _, h => by rw [Pv.cool] <;> first | exact h.move (Agree.refl _ _) (fun _ _ q => q) (fun k hk => by cases hk) | nofun
  | .zrow, _, h => by rw [Pv.cool] <;> first | exact h.move (Agree.refl _ _) (fun _ _ q => q) (fun k hk => by cases hk) | nofun
  | .empt, _, h => by rw [Pv.cool] <;> first | exact h.move (Agree.refl _ _) (fun _ _ q => q) (fun k hk => by cases hk) | nofun
  | .row _ _ _, _, h => by rw [Pv.cool] <;> first | exact h.move (Agree.refl _ _) (fun _ _ q => q) (fun k hk => by cases hk) | nofun
  | .nilp, _, h => by rw [Pv.cool] <;> first | exact h.move (Agree.refl _ _) (fun _ _ q => q) (fun k hk => by cases hk) | nofun
  | .elem _ _ _, _, h => by rw [Pv.cool] <;> first | exact h.move (Agree.refl _ _) (fun _ _ q => q) (fun k hk => by cases hk) | nofun
  | .nilf, _, h => by rw [Pv.cool] <;> first | exact h.move (Agree.refl _ _) (fun _ _ q => q) (fun k hk => by cases hk) | nofun
theorem VRs.opened {ρ' : Nat → Value} {id : Nat} {A : Value} {us us' : List Value} (h1 : ρ id = .agg (A :: us).toArray) (h2 : ρ' id = .agg (A :: us').toArray) (hn : ∀ j, j ≠ id → ρ' j = ρ j) : ∀ {ps : List PV} {vs : List Value}, VRs ρ own w ps vs → VRs ρ' own w (coolL id .undef (.deep id) ps) vs
  | [], _, h => by
    rw [VRs] at h
    rw [coolL, VRs]
    exact h
  | p :: ps, _, h => by
    rw [VRs] at h
    obtain ⟨v, r, e, k1, k2⟩ := h
    rw [coolL, VRs]
    exact ⟨v, r, e, VR.opened h1 h2 hn k1, VRs.opened h1 h2 hn k2⟩
end
theorem upd_others (ρ : Nat → Value) (id : Nat) (v : Value) : ∀ j, j ≠ id → upd ρ id v j = ρ j := fun _ h => upd_ne _ _ h
/-- A row of rows turns, and its label with it; its slice stays. -/
theorem RelX.turnDeep (h : RelX ρ own c s a w) {id : Nat} {A : Value} {us us' : List Value} {b1 : Blk} (e : ρ id = .agg (A :: us).toArray) (hw : Agree own w w1) (hb : Beneath c.L c.w0 w1)
    (hk : ∀ j x g, j ≠ id → look j s.sto = some x → g ∈ blks (ρ j) → w1.heap[g]? = w.heap[g]?)
    (hg : ∀ g, g ∈ blks (.agg (A :: us').toArray) → own g ∧ (c.w0.heap.size ≤ g ∨ c.L g) ∧ ∀ j x, j ≠ id → look j s.sto = some x → g ∉ blks (ρ j))
    (hbr : BR (upd ρ id (.agg (A :: us').toArray)) own w1 id b1) :
    RelX (upd ρ id (.agg (A :: us').toArray)) own c (s.deepAs id b1) a w1 := by
  have lk : ∀ j x, look j (setb id b1 (coolB id .undef (.deep id) s.sto)) = some x → (j = id ∧ x = b1) ∨ (j ≠ id ∧ ∃ b0, look j s.sto = some b0 ∧ (match b0 with | .box t' cs => x = .box t' (coolL id .undef (.deep id) cs) | .row e t l => x = .row e t l | .map k v l => x = .map k v l | .deep e e' t l o => x = .deep e e' t l o)) := by
    intro j x hj
    rw [look_set] at hj
    by_cases q : j = id
    · rw [if_pos q] at hj
      cases hq : look id (coolB id .undef (.deep id) s.sto) with
      | none => rw [hq] at hj; cases hj
      | some y => rw [hq] at hj; exact .inl ⟨q, (Option.some.inj hj).symm⟩
    · rw [if_neg q] at hj
      exact .inr ⟨q, look_cool id _ _ s.sto j x hj⟩
  refine ⟨?_, fun i => ?_, fun j x hj => ?_, fun i j x x' g hi hj k1 k2 => ?_, fun j x g hj k1 => ?_, fun g q => Nat.lt_of_lt_of_le (h.lo g q) hw.1, h.base, h.fr, hb, h.defers, fun i v hp hi => h.pin i v hp (cool_pin (by nofun) (by nofun) hi)⟩
  · show (coolL _ _ _ _).length = _
    rw [len_cool]
    exact h.len
  · show VR _ _ _ (nth (coolL _ _ _ _) i) _
    rw [nth_cool]
    exact (VR.opened e (upd_same _ _ _) (upd_others _ _ _) (h.env i)).move hw (fun _ _ q => q) (fun _ _ => rfl)
  · rcases lk j x hj with ⟨rfl, rfl⟩ | ⟨hne, b0, h0, hb0⟩
    · exact hbr
    · have hbr0 := h.sto j b0 h0
      have hgd : ∀ g, g ∈ blks (ρ j) → w1.heap[g]? = w.heap[g]? := fun g q => hk j b0 g hne h0 q
      cases b0 with
      | box t' cs =>
        subst hb0
        obtain ⟨g, vs, e1, hh, hv⟩ := hbr0
        exact ⟨g, vs, (upd_ne _ _ hne).trans e1, (hgd g (in_blk (by rw [e1]; rfl))).trans hh, (VRs.opened e (upd_same _ _ _) (upd_others _ _ _) hv).move hw (fun _ _ q => q) (fun _ _ => rfl)⟩
      | row _ _ _ =>
        subst hb0
        exact BR.move hw (fun _ _ q => q) (upd_ne _ _ hne) trivial hgd hbr0
      | map _ _ _ =>
        subst hb0
        exact BR.move hw (fun _ _ q => q) (upd_ne _ _ hne) trivial hgd hbr0
      | deep _ _ _ _ _ =>
        subst hb0
        exact BR.move hw (fun _ _ q => q) (upd_ne _ _ hne) trivial hgd hbr0
  · rcases lk i x hi with ⟨rfl, rfl⟩ | ⟨ni, y, hy, _⟩
    · rcases lk j x' hj with ⟨rfl, _⟩ | ⟨nj, z, hz, _⟩
      · rfl
      · rw [upd_same] at k1
        rw [upd_ne _ _ nj] at k2
        exact absurd k2 ((hg g k1).2.2 j z nj hz)
    · rw [upd_ne _ _ ni] at k1
      rcases lk j x' hj with ⟨rfl, rfl⟩ | ⟨nj, z, hz, _⟩
      · rw [upd_same] at k2
        exact absurd k1 ((hg g k2).2.2 i y ni hy)
      · rw [upd_ne _ _ nj] at k2
        exact h.apart i j y z g hy hz k1 k2
  · rcases lk j x hj with ⟨rfl, rfl⟩ | ⟨nj, y, hy, _⟩
    · rw [upd_same] at k1
      exact ⟨(hg g k1).1, (hg g k1).2.1⟩
    · rw [upd_ne _ _ nj] at k1
      exact h.owned j y g hy k1
theorem RowR.blks_eq {v : Value} {e : TypeId} {t : Ty} {l : List t.den} (h : RowR own w v e t l) : blks v = blks1 v := by
  rcases h with ⟨⟨A, e1⟩, _⟩ | ⟨g, k, vs, e1, _⟩ <;> (rw [e1]; rfl)
theorem RowR.cell {v : Value} {e : TypeId} {t : Ty} {l : List t.den} (h : RowR own w v e t l) : v.oneCell' = true ∧ v.cells = #[v] := by
  rcases h with ⟨⟨A, e1⟩, _⟩ | ⟨g, k, vs, e1, _⟩ <;> (rw [e1]; exact ⟨rfl, rfl⟩)
theorem blks_agg_iff {A : Value} {us : List Value} {g : Nat} : g ∈ blks (.agg (A :: us).toArray) ↔ g ∈ blks1 A ∨ ∃ u ∈ us, g ∈ blks1 u := by
  show g ∈ (A :: us).flatMap blks1 ↔ _
  rw [List.flatMap_cons, List.mem_append, List.mem_flatMap]
theorem blks_agg_eq (A : Value) (us : List Value) : blks (.agg (A :: us).toArray) = blks1 A ++ us.flatMap blks1 := by
  show (A :: us).flatMap blks1 = _
  rw [List.flatMap_cons]
theorem blks1_nodup (v : Value) : (blks1 v).Nodup := by
  unfold blks1
  split <;> simp
/-- Of apart blocks, the one at a place is nowhere else. -/
theorem nodup_at {us : List Value} (h : (us.flatMap blks1).Nodup) {i j : Nat} {u v : Value} (hi : us[i]? = some u) (hj : us[j]? = some v) {g : Nat} (hu : g ∈ blks1 u) (hv : g ∈ blks1 v) : i = j := by
  induction us generalizing i j with
  | nil => simp at hi
  | cons x us ih =>
    rw [List.flatMap_cons, List.nodup_append] at h
    cases i with
    | zero =>
      cases j with
      | zero => rfl
      | succ j =>
        simp at hi hj
        subst hi
        exact absurd rfl (h.2.2 g hu g (List.mem_flatMap.2 ⟨v, List.mem_of_getElem? hj, hv⟩))
    | succ i =>
      cases j with
      | zero =>
        simp at hi hj
        subst hj
        exact absurd rfl (h.2.2 g hv g (List.mem_flatMap.2 ⟨u, List.mem_of_getElem? hi, hu⟩))
      | succ j =>
        simp at hi hj
        rw [ih h.2.1 hi hj]
theorem nodup_set : ∀ {us : List Value} (_ : (us.flatMap blks1).Nodup) (i : Nat) (v : Value) (_ : ∀ g, g ∈ blks1 v → ∀ (j : Nat) (u : Value), us[j]? = some u → j ≠ i → g ∉ blks1 u), ((us.set i v).flatMap blks1).Nodup
  | [], _, _, _, _ => by simp
  | x :: us, h, 0, v, hv => by
    rw [List.set_cons_zero, List.flatMap_cons, List.nodup_append]
    rw [List.flatMap_cons, List.nodup_append] at h
    refine ⟨blks1_nodup v, h.2.1, fun g hg g' hg' e => ?_⟩
    subst e
    obtain ⟨u, hu, hu'⟩ := List.mem_flatMap.1 hg'
    obtain ⟨j, hj⟩ := List.mem_iff_getElem?.1 hu
    exact hv g hg (j + 1) u (by simpa using hj) (by omega) hu'
  | x :: us, h, i + 1, v, hv => by
    rw [List.set_cons_succ, List.flatMap_cons, List.nodup_append]
    rw [List.flatMap_cons, List.nodup_append] at h
    refine ⟨h.1, nodup_set h.2.1 i v (fun g hg j u hj hne => hv g hg (j + 1) u (by simpa using hj) (by omega)), fun g hg g' hg' e => ?_⟩
    subst e
    obtain ⟨u, hu, hu'⟩ := List.mem_flatMap.1 hg'
    obtain ⟨j, hj⟩ := List.mem_iff_getElem?.1 hu
    rw [List.getElem?_set] at hj
    split at hj
    · rename_i hij
      split at hj
      · cases hj
        exact hv g hu' 0 x (by simp) (by omega) hg
      · cases hj
    · exact h.2.2 g hg g (List.mem_flatMap.2 ⟨u, List.mem_of_getElem? hj, hu'⟩) rfl
/-- What the parts of a row of rows are. -/
theorem DeepR.parts {v : Value} {e e' : TypeId} {t : Ty} {l : List (List t.den)} {hole : Option Int} (h : DeepR own w v e e' t l hole) {i : Nat} (hi : i < l.length) :
    ∃ (g c : Nat) (vs : Array Value) (us : List Value) (u : Value), v = .agg (.slice (some ⟨g, 0, none⟩) l.length (c + 1) :: us).toArray ∧ us.length = l.length ∧ l.length ≤ c + 1 ∧ c + 1 ≤ maxLen ∧ w.heap[g]? = some (.cells vs e (0, 0)) ∧ vs.size = c + 1 ∧ us[i]? = some u ∧ (us.flatMap blks1).Nodup ∧ (∀ x ∈ us, g ∉ blks1 x) ∧
      (∀ (j : Nat) (u : Value), us[j]? = some u → hole ≠ some (j : Int) → vs[j]? = some u) ∧ (∀ (j : Nat) (x : List t.den) (u : Value), l[j]? = some x → us[j]? = some u → if hole = some (j : Int) then u = undef else RowR own w u e' t x) := by
  obtain ⟨A, us, e1, h1, h2, h3, h4⟩ := h
  rcases h3 with ⟨_, e2⟩ | ⟨g, c, vs, e2, k1, k2, hh, k3, k4⟩
  · subst e2
    simp at hi
  · subst e2
    rw [e1, blks_agg_eq, List.nodup_append] at h2
    exact ⟨g, c, vs, us, us[i], e1, h1, k1, k2, hh, k3, List.getElem?_eq_getElem (by omega), h2.2.1, fun x hx hgx => h2.2.2 g (List.mem_singleton.2 rfl) g (List.mem_flatMap.2 ⟨x, hx, hgx⟩) rfl, k4, h4⟩
/-- An element is taken out. -/
theorem RelX.openD (h : RelX ρ own c s a w) {id d : Nat} {e e' : TypeId} {t : Ty} {l : List (List t.den)} (hl : look id s.sto = some (.deep e e' t l none)) (hd : d ≠ id) {i : Nat} (hi : i < l.length) :
    ∃ ρ' u, RelX ρ' own c ((s.deepAs id (.deep e e' t l (some i))).add d (.row e' t (l.getD i []))) a w ∧ ρ' d = u ∧
      ∃ (g n : Nat) (us : List Value), ρ id = .agg (.slice (some ⟨g, 0, none⟩) l.length n :: us).toArray ∧ w.cell? ⟨g, i, none⟩ = some u := by
  obtain ⟨g, k, vs, us, u, e1, h1, h2, h3, hh, h4, hu, h5, h6, h7, h8⟩ := (h.sto id _ hl).parts hi
  have hx : l[i]? = some l[i] := List.getElem?_eq_getElem hi
  have hrow := h8 i _ u hx hu
  rw [if_neg (by simp)] at hrow
  have hown : ∀ q, q ∈ blks (ρ id) → own q ∧ (c.w0.heap.size ≤ q ∨ c.L q) := fun q hq => h.owned id _ q hl hq
  have hsub : ∀ q, q ∈ blks (.agg (.slice (some ⟨g, 0, none⟩) l.length (k + 1) :: us.set i undef).toArray) → q ∈ blks (ρ id) := by
    intro q hq
    rw [blks_agg_iff] at hq
    rw [e1, blks_agg_iff]
    rcases hq with hq | ⟨x, hx, hq⟩
    · exact .inl hq
    · rcases List.mem_or_eq_of_mem_set hx with hx | rfl
      · exact .inr ⟨x, hx, hq⟩
      · cases hq
  have ht : RelX (upd ρ id (.agg (.slice (some ⟨g, 0, none⟩) l.length (k + 1) :: us.set i undef).toArray)) own c (s.deepAs id (.deep e e' t l (some i))) a w := by
    refine h.turnDeep e1 (Agree.refl _ _) h.below (fun _ _ _ _ _ _ => rfl) (fun q hq => ⟨(hown q (hsub q hq)).1, (hown q (hsub q hq)).2, fun j x nj hj hq' => nj (h.apart j id _ _ q hj hl hq' (hsub q hq))⟩) ?_
    refine ⟨_, _, upd_same _ _ _, by rw [List.length_set]; exact h1, ?_, .inr ⟨g, k, vs, rfl, h2, h3, hh, h4, fun j v hj hne => ?_⟩, fun j x v hx hj => ?_⟩
    · rw [upd_same, blks_agg_eq, List.nodup_append]
      refine ⟨blks1_nodup _, nodup_set h5 i undef (fun q hq => by cases hq), fun q hq q' hq' eq => ?_⟩
      subst eq
      obtain ⟨x, hx, hx'⟩ := List.mem_flatMap.1 hq'
      have hqg : q = g := List.mem_singleton.1 hq
      subst hqg
      rcases List.mem_or_eq_of_mem_set hx with hx | rfl
      · exact h6 x hx hx'
      · cases hx'
    · have hji : i ≠ j := fun e => hne (by rw [e])
      rw [List.getElem?_set, if_neg hji] at hj
      exact h7 j v hj (by simp)
    · rw [List.getElem?_set] at hj
      by_cases hij : i = j
      · subst hij
        rw [if_pos rfl, if_pos (by omega)] at hj
        rw [if_pos rfl]
        exact (Option.some.inj hj).symm
      · rw [if_neg hij] at hj
        rw [if_neg (by intro q; exact hij (by have := Option.some.inj q; omega))]
        have := h8 j x v hx hj
        rw [if_neg (by simp)] at this
        exact this
  refine ⟨upd (upd ρ id (.agg (.slice (some ⟨g, 0, none⟩) l.length (k + 1) :: us.set i undef).toArray)) d u, u, ht.addL d u _ (Agree.refl _ _) ht.below (fun _ _ q => q) (fun j x q _ hj hq => ⟨rfl, (ht.owned j x q hj hq).1⟩) ht.lo ht.base (fun j x q nj hj hq hq2 => ?_) (fun q hq => ?_) ?_, upd_same _ _ _, g, k + 1, us, e1, ?_⟩
  · rw [hrow.blks_eq] at hq2
    by_cases ej : j = id
    · subst ej
      rw [upd_same, blks_agg_iff] at hq
      rcases hq with hq | ⟨x, hx, hq⟩
      · have : q = g := List.mem_singleton.1 hq
        subst this
        exact h6 u (List.mem_of_getElem? hu) hq2
      · obtain ⟨m, hm⟩ := List.mem_iff_getElem?.1 hx
        rw [List.getElem?_set] at hm
        split at hm
        · split at hm
          · cases hm
            cases hq
          · cases hm
        · rename_i hne
          exact hne (nodup_at h5 hu hm hq2 hq)
    · rw [upd_ne _ _ ej] at hq
      have hj' : look j (setb id (.deep e e' t l (some (i : Int))) (coolB id .undef (.deep id) s.sto)) = some x := hj
      rw [look_set, if_neg ej] at hj'
      obtain ⟨b0, h0, _⟩ := look_cool id _ _ s.sto j x hj'
      exact ej (h.apart j id b0 _ q h0 hl hq (by rw [e1, blks_agg_iff]; exact .inr ⟨u, List.mem_of_getElem? hu, hq2⟩))
  · rw [hrow.blks_eq] at hq
    exact hown q (by rw [e1, blks_agg_iff]; exact .inr ⟨u, List.mem_of_getElem? hu, hq⟩)
  · have hgd : l.getD i [] = l[i] := by rw [List.getD_eq_getElem?_getD, hx]; rfl
    rw [hgd]
    show RowR own w (upd _ d u d) e' t l[i]
    rw [upd_same]
    exact hrow
  · rw [cell_of_block hh]
    exact h7 i u hu (by simp)
theorem does_open (h : RelX ρ own c s a w) {t : TypeId} {d id : Nat} {i : Int} {K : PV → St → Option R} (hK : evOpen P s d t id i K = some r) {vx : Value} (hx : VR ρ own w (.delem id i) vx) :
    Does P c a w (do pure (.value (← Instr.loadAt t vx))) K r := by
  unfold evOpen at hK
  split at hK
  · rename_i e e' τ l hl
    split at hK
    · rename_i hc
      rw [Bool.and_eq_true] at hc
      obtain ⟨hd, ha⟩ := hc
      have hd' : d ≠ id := by
        intro q
        rw [q] at hd
        simp at hd
      have ha' : aggT P t = some false := by simpa using ha
      rw [VR] at hx
      obtain ⟨g, n, k, us, e1, hi0, hlt, rfl⟩ := hx
      obtain ⟨A0, k', eh⟩ := DeepR.head (h.sto id _ hl) e1
      cases eh
      obtain ⟨ρ', u, h1, h2, g2, n2, us2, e2, hcell⟩ := h.openD hl hd' hlt
      rw [e1] at e2
      obtain ⟨e3, _⟩ := agg_head e2
      cases e3
      have hi : ((i.toNat : Nat) : Int) = i := Int.toNat_of_nonneg hi0
      rw [hi] at h1
      refine Does.value hK h1 (p := .own d) (v := u) (by rw [VR]; exact h2.symm) ?_
      simp [Instr.loadAt, Instr.sureAddr, loadVar, run_isAgg_of ha', hcell]
    · cases hK
  · cases hK
theorem does_close (h : RelX ρ own c s a w) {t : TypeId} {id : Nat} {i : Int} {y : PV} {K : PV → St → Option R} (hK : evClose P s t id i y (fun s' => K .undef s') = some r) {vx vy : Value} (hx : VR ρ own w (.delem id i) vx) (hy : VR ρ own w y vy) :
    Does P c a w (do Instr.storeAt t vx vy; pure .skip) K r := by
  unfold evClose at hK
  split at hK
  · rename_i k e e' τ l hole hl
    split at hK
    · rename_i E1 T1 m hlk
      split at hK
      · rename_i hsz
        have hn : sizeT P t = some 1 := by simpa using hsz
        split at hK
        · rename_i m' hm
          obtain ⟨rfl, rfl, q⟩ := sameRow_eq hm
          have := eq_of_heq q
          subst this
          have hkid : k ≠ id := by
            intro q
            rw [q, hl] at hlk
            cases hlk
          rw [VR] at hx
          obtain ⟨g, n, kk, us0, e1, hi0, hlt, rfl⟩ := hx
          obtain ⟨A0, k', eh⟩ := DeepR.head (h.sto id _ hl) e1
          cases eh
          obtain ⟨g2, kp, vs, us, u, e2, h1, h2, h3, hh, h4, hu, h5, h6, h7, h8⟩ := (h.sto id _ hl).parts hlt
          rw [e1] at e2
          obtain ⟨e3, e4⟩ := agg_head e2
          cases e3
          subst e4
          rw [VR] at hy
          subst hy
          have hrow : RowR own w (ρ k) E1 T1 m := h.sto k _ hlk
          obtain ⟨hone, hcells⟩ := hrow.cell
          have key : K .undef ((s.used k).deepAs id (.deep e E1 T1 (l.set i.toNat m) none)) = some r ∧ (hole = none ∨ hole = some (i.toNat : Int)) := by
            cases hole with
            | none => exact ⟨hK, .inl rfl⟩
            | some j =>
              simp only at hK
              split at hK
              · rename_i hij
                subst hij
                exact ⟨hK, .inr (by rw [Int.toNat_of_nonneg hi0])⟩
              · cases hK
          obtain ⟨hK, hole'⟩ := key
          have hne : ∀ j : Nat, j ≠ i.toNat → hole ≠ some (j : Int) := by
            intro j hj q
            rcases hole' with e | e
            · rw [e] at q
              cases q
            · rw [e] at q
              exact hj (by have := Option.some.inj q; omega)
          have hblk : g ∈ blks (ρ id) := by rw [e1, blks_agg_iff]; exact .inl (List.mem_singleton.2 rfl)
          have how := h.owned id _ g hl hblk
          have hgk : g ∉ blks (ρ k) := fun q => hkid (h.apart k id _ _ g hlk hl q hblk)
          have hvl : vs.toList.length = kp + 1 := by simpa using h4
          have hrun := run_storeCells_at (P := P) g i.toNat e [ρ k] 0 vs w hh (by simp; omega) (by intro v hv; rw [List.mem_singleton.1 hv]; exact hone)
          rw [Nat.add_zero] at hrun
          have hag : Agree own w (w.setRow g (vs.toList.take i.toNat ++ [ρ k] ++ vs.toList.drop (i.toNat + [ρ k].length)).toArray) :=
            ⟨by simp, fun q _ hq => setRow_other w g q _ (fun q' => hq (q' ▸ how.1))⟩
          have hused : RelX (upd ρ k (ρ k)) own c (s.used k) a w := h.used k (ρ k) (Agree.refl _ _) h.below (fun _ _ q => q) (fun j x g _ hj hg => ⟨rfl, (h.owned j x g hj hg).1⟩) h.lo h.base
          have hupd : upd ρ k (ρ k) = ρ := by
            funext j
            by_cases q : j = k
            · rw [q, upd_same]
            · rw [upd_ne _ _ q]
          rw [hupd] at hused
          have lk : ∀ j x, look j (s.used k).sto = some x → j ≠ k ∧ ∃ b0, look j s.sto = some b0 := by
            intro j x hj
            have q := look_drop k _ j x hj
            obtain ⟨b0, h0, _⟩ := look_forget k s.sto j x q.2
            exact ⟨q.1, b0, h0⟩
          refine ⟨_, own, .undef, undef, _, _, hK, hused.turnDeep (us' := us0.set i.toNat (ρ k)) e1 hag ?_ (fun j x q nj hj hq => ?_) (fun q hq => ?_) ?_, by rw [VR]; trivial, .inr ⟨?_, rfl⟩⟩
          · refine h.below.trans (L' := fun k => k = g) ⟨rfl, rfl, rfl, by simp, fun k _ hk => setRow_other w g k _ hk⟩ (fun k hk q => ?_)
            subst q
            rcases how.2 with q | q
            · omega
            · exact q
          · obtain ⟨_, b0, h0⟩ := lk j x hj
            exact setRow_other w g q _ (fun e => nj (h.apart j id _ _ q h0 hl hq (e ▸ hblk)))
          · rw [blks_agg_iff] at hq
            have fid : q ∈ blks (ρ id) → own q ∧ (c.w0.heap.size ≤ q ∨ c.L q) ∧ ∀ j x, j ≠ id → look j (s.used k).sto = some x → q ∉ blks (ρ j) := fun hq => by
              have := h.owned id _ q hl hq
              exact ⟨this.1, this.2, fun j x nj hj hq' => by
                obtain ⟨_, b0, h0⟩ := lk j x hj
                exact nj (h.apart j id _ _ q h0 hl hq' hq)⟩
            rcases hq with hq | ⟨x, hx, hq⟩
            · exact fid (by rw [e1, blks_agg_iff]; exact .inl hq)
            · rcases List.mem_or_eq_of_mem_set hx with hx | rfl
              · exact fid (by rw [e1, blks_agg_iff]; exact .inr ⟨x, hx, hq⟩)
              · rw [← hrow.blks_eq] at hq
                have := h.owned k _ q hlk hq
                exact ⟨this.1, this.2, fun j x nj hj hq' => by
                  obtain ⟨nk, b0, h0⟩ := lk j x hj
                  exact nk (h.apart j k _ _ q h0 hlk hq' hq)⟩
          · refine ⟨_, _, upd_same _ _ _, by simpa using h1, ?_, .inr ⟨g, kp, _, by simp, by simpa using h2, h3, setRow_heap w g vs _ e _ hh, by simp; omega, fun j v hj _ => ?_⟩, fun j x v hx hj => ?_⟩
            · rw [upd_same, blks_agg_eq, List.nodup_append]
              refine ⟨blks1_nodup _, nodup_set h5 i.toNat (ρ k) (fun q hq j v hj hne hq' => ?_), fun q hq q' hq' eq => ?_⟩
              · rw [← hrow.blks_eq] at hq
                exact hkid (h.apart k id _ _ q hlk hl hq (by rw [e1, blks_agg_iff]; exact .inr ⟨v, List.mem_of_getElem? hj, hq'⟩))
              · subst eq
                obtain ⟨x, hx, hx'⟩ := List.mem_flatMap.1 hq'
                have hqg : q = g := List.mem_singleton.1 hq
                subst hqg
                rcases List.mem_or_eq_of_mem_set hx with hx | rfl
                · exact h6 x hx hx'
                · exact hgk (by rw [hrow.blks_eq]; exact hx')
            · rw [← Array.getElem?_toList]
              rw [get_patch _ _ _ _ (by simp; omega)]
              rw [List.getElem?_set] at hj
              by_cases hij : i.toNat = j
              · subst hij
                rw [if_pos rfl, if_pos (by omega)] at hj
                rw [if_pos (by simp), Nat.sub_self]
                exact hj
              · rw [if_neg hij] at hj
                rw [if_neg (by simp; omega), Array.getElem?_toList]
                exact h7 j v hj (hne j (fun q => hij q.symm))
            · rw [if_neg (by simp)]
              rw [List.getElem?_set] at hj hx
              by_cases hij : i.toNat = j
              · subst hij
                rw [if_pos rfl, if_pos (by omega)] at hj
                rw [if_pos rfl, if_pos (by omega)] at hx
                cases hj
                cases hx
                exact hrow.move hag (fun _ _ q => q) (fun q hq => setRow_other w g q _ (fun e => hgk (by rw [hrow.blks_eq, ← e]; exact hq)))
              · rw [if_neg hij] at hj hx
                have := h8 j x v hx hj
                rw [if_neg (hne j (fun q => hij q.symm))] at this
                exact this.move hag (fun _ _ q => q) (fun q hq => setRow_other w g q _ (fun e => h6 v (List.mem_of_getElem? hj) (e ▸ hq)))
          · simp [Instr.storeAt, Instr.sureAddr, storeVar, hcells, run_sizeOf_of hn, hrun]
        · cases hK
      · cases hK
    · cases hK
  · cases hK
end
end Go.Proofs.YtionphbdphbpnaaGreat.Pv
