/- Operations that turn the world: new blocks, stores; rows that are only read from now on. -/
import Derived.Test.YtmbjpenjcfkaoaaPv7
namespace Go.Proofs.Ytmbjpenjcfkaoaa.Pv
open Go Go.RowKit

section
variable {R : Type} {r : R} {ρ : Nat → Value} {own : Nat → Prop} {c : Cx} {w : World} {s : St} {a : Act} {P : Program}
mutual
theorem VR.cool {own' : Nat → Prop} (ho : ∀ g, own' g → own g) {id : Nat} {q : PV} (hq : VR ρ own' w q (ρ id)) : ∀ {p : PV} {v : Value}, VR ρ own w p v → VR ρ own' w (cool id q p) v
  | .own j, v, h => by
    rw [Pv.cool]
    rw [VR] at h
    subst h
    split
    · rename_i e
      have : j = id := by simpa using e
      subst this
      exact hq
    · rw [VR]
  | .cref cs _, _, h => by
    rw [Pv.cool]
    rw [VR] at h ⊢
    obtain ⟨g, vs, t, e, h1, h2, h3, h⟩ := h
    exact ⟨g, vs, t, e, fun k => h1 (ho _ k), h2, h3, VRs.cool ho hq h⟩
  | .func f cs, _, h => by
    rw [Pv.cool]
    rw [VR] at h ⊢
    obtain ⟨vs, e, h⟩ := h
    exact ⟨vs, e, VRs.cool ho hq h⟩
  | .agg cs, _, h => by
    rw [Pv.cool]
    rw [VR] at h ⊢
    obtain ⟨vs, e, h⟩ := h
    exact ⟨vs, e, VRs.cool ho hq h⟩
  | .tuple cs, _, h => by
    rw [Pv.cool]
    rw [VR] at h ⊢
    obtain ⟨vs, e, h⟩ := h
    exact ⟨vs, e, VRs.cool ho hq h⟩
  | .oelem j z i o, v, h => by
    rw [Pv.cool]
    split
    · rw [VR]
      trivial
    · exact h.move (Agree.refl _ _) (fun g _ k => ho g k) (fun _ _ => rfl)
  | .undef, _, _ => by rw [Pv.cool, VR] <;> first | trivial | nofun
  | .int _ _, _, h => by rw [Pv.cool] <;> first | exact h.move (Agree.refl _ _) (fun g _ k => ho g k) (fun _ _ => rfl) | nofun
  | .bool _, _, h => by rw [Pv.cool] <;> first | exact h.move (Agree.refl _ _) (fun g _ k => ho g k) (fun _ _ => rfl) | nofun
  | .str _, _, h => by rw [Pv.cool] <;> first | exact h.move (Agree.refl _ _) (fun g _ k => ho g k) (fun _ _ => rfl) | nofun
  | .nils, _, h => by rw [Pv.cool] <;> first | exact h.move (Agree.refl _ _) (fun g _ k => ho g k) (fun _ _ => rfl) | nofun
  | .zrow, _, h => by rw [Pv.cool] <;> first | exact h.move (Agree.refl _ _) (fun g _ k => ho g k) (fun _ _ => rfl) | nofun
  | .empt, _, h => by rw [Pv.cool] <;> first | exact h.move (Agree.refl _ _) (fun g _ k => ho g k) (fun _ _ => rfl) | nofun
  | .row _ _ _, _, h => by rw [Pv.cool] <;> first | exact h.move (Agree.refl _ _) (fun g _ k => ho g k) (fun _ _ => rfl) | nofun
  | .nilp, _, h => by rw [Pv.cool] <;> first | exact h.move (Agree.refl _ _) (fun g _ k => ho g k) (fun _ _ => rfl) | nofun
  | .ref _ _, _, h => by rw [Pv.cool] <;> first | exact h.move (Agree.refl _ _) (fun g _ k => ho g k) (fun _ _ => rfl) | nofun
  | .elem _ _ _, _, h => by rw [Pv.cool] <;> first | exact h.move (Agree.refl _ _) (fun g _ k => ho g k) (fun _ _ => rfl) | nofun
  | .nilf, _, h => by rw [Pv.cool] <;> first | exact h.move (Agree.refl _ _) (fun g _ k => ho g k) (fun _ _ => rfl) | nofun
theorem VRs.cool {own' : Nat → Prop} (ho : ∀ g, own' g → own g) {id : Nat} {q : PV} (hq : VR ρ own' w q (ρ id)) : ∀ {ps : List PV} {vs : List Value}, VRs ρ own w ps vs → VRs ρ own' w (coolL id q ps) vs
  | [], _, h => by
    rw [VRs] at h
    rw [coolL, VRs]
    exact h
  | p :: ps, _, h => by
    rw [VRs] at h
    obtain ⟨v, r, e, h1, h2⟩ := h
    rw [coolL, VRs]
    exact ⟨v, r, e, VR.cool ho hq h1, VRs.cool ho hq h2⟩
end
theorem nth_cool (id : Nat) (q : PV) : ∀ (l : List PV) (t : Nat), nth (coolL id q l) t = cool id q (nth l t)
  | [], t => by rw [coolL, nth, cool] <;> nofun
  | x :: r, 0 => by rw [coolL, nth, nth]
  | x :: r, t + 1 => by rw [coolL, nth, nth]; exact nth_cool id q r t
theorem cool_ref {id j o : Nat} {q p : PV} (hq : q ≠ .ref j o) (h : cool id q p = .ref j o) : p = .ref j o := by
  cases p with
  | own i =>
    rw [Pv.cool] at h
    split at h
    · exact absurd h hq
    · cases h
  | oelem i z n k =>
    rw [Pv.cool] at h
    split at h <;> cases h
  | _ => rw [Pv.cool] at h <;> first | exact h | (cases h; done) | nofun
theorem cool_pin {id i j o : Nat} {q : PV} {l : List PV} (hq : q ≠ .ref j o) (h : nth (coolL id q l) i = .ref j o) : nth l i = .ref j o := by
  rw [nth_cool] at h
  exact cool_ref hq h
theorem len_cool (id : Nat) (q : PV) : ∀ l : List PV, (coolL id q l).length = l.length
  | [] => rfl
  | x :: r => by simp only [coolL, List.length_cons, len_cool id q r]
theorem look_cool (id : Nat) (q : PV) : ∀ (l : List (Nat × Blk)) (j : Nat) (b : Blk), look j (coolB id q l) = some b → ∃ b0, look j l = some b0 ∧ (match b0 with | .box t cs => b = .box t (coolL id q cs) | .row e t x => b = .row e t x | .map k v x => b = .map k v x)
  | [], j, b, h => by simp [coolB, look] at h
  | (i, .box t cs) :: r, j, b, h => by
    rw [coolB, look] at h
    rw [look]
    by_cases hj : i = j
    · subst hj
      rw [if_pos (by simp)] at h ⊢
      exact ⟨_, rfl, (Option.some.inj h).symm⟩
    · rw [if_neg (by simpa using hj)] at h ⊢
      exact look_cool id q r j b h
  | (i, .row e t x) :: r, j, b, h => by
    rw [coolB, look] at h
    rw [look]
    by_cases hj : i = j
    · subst hj
      rw [if_pos (by simp)] at h ⊢
      exact ⟨_, rfl, (Option.some.inj h).symm⟩
    · rw [if_neg (by simpa using hj)] at h ⊢
      exact look_cool id q r j b h
  | (i, .map k v x) :: r, j, b, h => by
    rw [coolB, look] at h
    rw [look]
    by_cases hj : i = j
    · subst hj
      rw [if_pos (by simp)] at h ⊢
      exact ⟨_, rfl, (Option.some.inj h).symm⟩
    · rw [if_neg (by simpa using hj)] at h ⊢
      exact look_cool id q r j b h
/-- A row of the call's own, read as a row that is only read. -/
theorem BR.view {own' : Nat → Prop} {id : Nat} {e : TypeId} {t : Ty} {l : List t.den} (h : BR ρ own w id (.row e t l)) (ho : ∀ g, own' g → own g) (hn : ∀ g, blkOf (ρ id) = some g → ¬ own' g) (o : Bool) : RdC own' w (.list o e t) l [ρ id] := by
  rcases h with ⟨⟨A, e1⟩, e2⟩ | ⟨g, k, vs, e1, h1, h2, hh, h3, h5⟩
  · rw [e1]
    subst e2
    exact RdC_list_nil
  · rw [e1, RdC.eq_def]
    refine ⟨_, _, rfl, h1, h2, fun q => (by cases q), fun i y hy => ?_⟩
    have hi : i < l.length := by
      rcases Nat.lt_or_ge i l.length with q | q
      · exact q
      · simp [List.getElem?_eq_none q] at hy
    have hm : l.length * t.sz ≤ (k + 1) * t.sz := Nat.mul_le_mul_right _ h1
    have hm' : (i + 1) * t.sz ≤ l.length * t.sz := Nat.mul_le_mul_right _ hi
    rw [Nat.add_mul, Nat.one_mul] at hm'
    have hg : g < w.heap.size := by
      rcases Nat.lt_or_ge g w.heap.size with q | q
      · exact q
      · simp [Array.getElem?_eq_none q] at hh
    refine ⟨_, (vs.toList.drop (i * t.sz)).take t.sz, rfl, hn g (by rw [e1]; rfl), hg, by simp; omega, (h5 i y hy).move (Agree.refl _ _) (fun g _ q => ho g q), fun j z hj => ?_⟩
    rw [Addr.add_lit, cell_of_block hh]
    rw [List.getElem?_take] at hj
    split at hj
    · rw [List.getElem?_drop] at hj
      simpa using hj
    · cases hj
theorem RelX.cool (h : RelX ρ own c s a w) (id : Nat) : ∃ own', RelX ρ own' c (s.cool id) a w ∧ (∀ g, own' g → own g) ∧ ∀ e t l, look id s.sto = some (.row e t l) → VR ρ own' w (.row e t l) (ρ id) := by
  unfold St.cool
  split
  · rename_i e t l hl
    have hview : VR ρ (fun k => own k ∧ blkOf (ρ id) ≠ some k) w (.row e t l) (ρ id) := by
      rw [VR]
      exact (h.sto id _ hl).view (fun g q => q.1) (fun g hg q => q.2 hg) false
    refine ⟨fun k => own k ∧ blkOf (ρ id) ≠ some k, ?_, fun g q => q.1, fun e' t' l' hl' => by rw [hl] at hl'; cases hl'; exact hview⟩
    have lk : ∀ j b, look j (dropb id (coolB id (.row e t l) s.sto)) = some b → j ≠ id ∧ ∃ b0, look j s.sto = some b0 ∧ (match b0 with | .box t' cs => b = .box t' (coolL id (.row e t l) cs) | .row e t x => b = .row e t x | .map k v x => b = .map k v x) := by
      intro j b hj
      have := look_drop id _ j b hj
      exact ⟨this.1, look_cool id _ s.sto j b this.2⟩
    refine ⟨?_, fun i => ?_, fun j b hj => ?_, fun i j b b' g hi hj h1 h2 => ?_, fun j b g hj h1 => ?_, fun g q => h.lo g q.1, fun g q => ⟨h.base g q, fun hg => ?_⟩, h.fr, h.below, h.defers, fun i v hp hi => h.pin i v hp (cool_pin (by nofun) hi)⟩
    · show (coolL _ _ _).length = _
      rw [len_cool]
      exact h.len
    · show VR _ _ _ (nth (coolL _ _ _) i) _
      rw [nth_cool]
      exact VR.cool (fun g q => q.1) hview (h.env i)
    · obtain ⟨hn, b0, h0, hb0⟩ := lk j b hj
      have hbr := h.sto j b0 h0
      cases b0 with
      | box t' cs =>
        subst hb0
        obtain ⟨g, vs, e, hh, hv⟩ := hbr
        exact ⟨g, vs, e, hh, VRs.cool (fun g q => q.1) hview hv⟩
      | row e t x =>
        subst hb0
        exact BR.move (Agree.refl _ _) (fun g _ q => q.1) rfl trivial (fun _ _ => rfl) hbr
      | map k v x =>
        subst hb0
        exact BR.move (Agree.refl _ _) (fun g _ q => q.1) rfl trivial (fun _ _ => rfl) hbr
    · obtain ⟨hn, b0, h0, _⟩ := lk i b hi
      obtain ⟨hn', b0', h0', _⟩ := lk j b' hj
      exact h.apart i j b0 b0' g h0 h0' h1 h2
    · obtain ⟨hn, b0, h0, hb0⟩ := lk j b hj
      have := h.owned j b0 g h0 h1
      exact ⟨⟨this.1, fun q => hn (h.apart j id b0 _ g h0 hl h1 q)⟩, this.2⟩
    · rcases (h.owned id _ g hl hg).2 with k | k
      · have := h.fr g q
        omega
      · exact c.dis g q k
  · rename_i hno
    exact ⟨own, h, fun _ q => q, fun e t l hl => absurd hl (hno e t l)⟩
theorem RelX.cools (h : RelX ρ own c s a w) : ∀ ids : List Nat, ∃ own', RelX ρ own' c (s.cools ids) a w ∧ ∀ g, own' g → own g := by
  intro ids
  induction ids generalizing s own with
  | nil => exact ⟨own, h, fun _ q => q⟩
  | cons i r ih =>
    obtain ⟨o1, h1, q1, _⟩ := h.cool i
    obtain ⟨o2, h2, q2⟩ := ih h1
    exact ⟨o2, h2, fun g q => q1 g (q2 g q)⟩
end
end Go.Proofs.Ytmbjpenjcfkaoaa.Pv
