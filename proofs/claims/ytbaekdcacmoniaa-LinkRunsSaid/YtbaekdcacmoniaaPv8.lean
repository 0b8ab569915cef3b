/- Operations that turn the world: new blocks, stores; rows that are only read from now on. -/
import Derived.Test.YtbaekdcacmoniaaPv7
namespace Go.Proofs.Ytbaekdcacmoniaa.Pv
open Go Go.RowKit

section
variable {R : Type} {r : R} {ρ : Nat → Value} {own : Nat → Prop} {W0 : World} {c : Cx W0} {w : World} {s : St} {a : Act} {P : Program}
mutual
theorem VR.cool {own' : Nat → Prop} (ho : ∀ g, own' g → own g) {id : Nat} {q qd : PV} (hq : VR ρ own' w q (ρ id)) (hqd : ∀ v us, ρ id = .agg (v :: us).toArray → VR ρ own' w qd v) : ∀ {p : PV} {v : Value}, VR ρ own w p v → VR ρ own' w (cool id q qd p) v
  | .own j, v, h => by
    rw [Pv.cool]
    rw [VR] at h
    obtain ⟨rfl, hag⟩ := h
    split
    · rename_i e
      have : j = id := by simpa using e
      subst this
      exact hq
    · rw [VR]
      exact ⟨rfl, hag⟩
  | .cref cs _, _, h => by
    rw [Pv.cool]
    rw [VR] at h ⊢
    obtain ⟨g, vs, t, e, h1, h2, h3, h⟩ := h
    exact ⟨g, vs, t, e, fun k => h1 (ho _ k), h2, h3, VRs.cool ho hq hqd h⟩
  | .func f cs, _, h => by
    rw [Pv.cool]
    rw [VR] at h ⊢
    obtain ⟨vs, e, h⟩ := h
    exact ⟨vs, e, VRs.cool ho hq hqd h⟩
  | .agg cs, _, h => by
    rw [Pv.cool]
    rw [VR] at h ⊢
    obtain ⟨vs, e, h⟩ := h
    exact ⟨vs, e, VRs.cool ho hq hqd h⟩
  | .tuple cs, _, h => by
    rw [Pv.cool]
    rw [VR] at h ⊢
    obtain ⟨vs, e, h⟩ := h
    exact ⟨vs, e, VRs.cool ho hq hqd h⟩
  | .oelem j z i o, v, h => by
    rw [Pv.cool]
    split
    · rw [VR]
      trivial
    · exact h.move (Agree.refl _ _) (fun g _ k => ho g k) (fun _ _ => rfl)
  | .deep j, v, h => by
    rw [Pv.cool]
    split
    · rename_i e
      have : j = id := by simpa using e
      subst this
      rw [VR] at h
      obtain ⟨us, e⟩ := h
      exact hqd _ _ e
    · exact h.move (Agree.refl _ _) (fun g _ k => ho g k) (fun _ _ => rfl)
  | .sub j i, v, h => by
    rw [Pv.cool]
    split
    · rw [VR]
      trivial
    · exact h.move (Agree.refl _ _) (fun g _ k => ho g k) (fun _ _ => rfl)
  | .delem _ _, _, h => by rw [Pv.cool] <;> first | exact h.move (Agree.refl _ _) (fun g _ k => ho g k) (fun _ _ => rfl) | nofun
  | .undef, _, _ => by rw [Pv.cool, VR] <;> first | trivial | nofun
  | .int _ _, _, h => by rw [Pv.cool] <;> first | exact h.move (Agree.refl _ _) (fun g _ k => ho g k) (fun _ _ => rfl) | nofun
  | .bool _, _, h => by rw [Pv.cool] <;> first | exact h.move (Agree.refl _ _) (fun g _ k => ho g k) (fun _ _ => rfl) | nofun
  | .str _, _, h => by rw [Pv.cool] <;> first | exact h.move (Agree.refl _ _) (fun g _ k => ho g k) (fun _ _ => rfl) | nofun
  | .nils, _, h => by rw [Pv.cool] <;> first | exact h.move (Agree.refl _ _) (fun g _ k => ho g k) (fun _ _ => rfl) | nofun
  | .zrow, _, h => by rw [Pv.cool] <;> first | exact h.move (Agree.refl _ _) (fun g _ k => ho g k) (fun _ _ => rfl) | nofun
  | .empt, _, h => by rw [Pv.cool] <;> first | exact h.move (Agree.refl _ _) (fun g _ k => ho g k) (fun _ _ => rfl) | nofun
  | .row _ _ _, _, h => by rw [Pv.cool] <;> first | exact h.move (Agree.refl _ _) (fun g _ k => ho g k) (fun _ _ => rfl) | nofun
  | .nilp, _, h => by rw [Pv.cool] <;> first | exact h.move (Agree.refl _ _) (fun g _ k => ho g k) (fun _ _ => rfl) | nofun
  | .ref _ _, _, h => by rw [Pv.cool] <;> first | exact h.move (Agree.refl _ _) (fun g _ k => ho g k) (fun _ _ => rfl) | nofun
  | .elem _ _ _, _, h => by rw [Pv.cool] <;> first | exact h.move (Agree.refl _ _) (fun g _ k => ho g k) (fun _ _ => rfl) | nofun
  | .nilf, _, h => by rw [Pv.cool] <;> first | exact h.move (Agree.refl _ _) (fun g _ k => ho g k) (fun _ _ => rfl) | nofun
theorem VRs.cool {own' : Nat → Prop} (ho : ∀ g, own' g → own g) {id : Nat} {q qd : PV} (hq : VR ρ own' w q (ρ id)) (hqd : ∀ v us, ρ id = .agg (v :: us).toArray → VR ρ own' w qd v) : ∀ {ps : List PV} {vs : List Value}, VRs ρ own w ps vs → VRs ρ own' w (coolL id q qd ps) vs
  | [], _, h => by
    rw [VRs] at h
    rw [coolL, VRs]
    exact h
  | p :: ps, _, h => by
    rw [VRs] at h
    obtain ⟨v, r, e, h1, h2⟩ := h
    rw [coolL, VRs]
    exact ⟨v, r, e, VR.cool ho hq hqd h1, VRs.cool ho hq hqd h2⟩
end
theorem nth_cool (id : Nat) (q qd : PV) : ∀ (l : List PV) (t : Nat), nth (coolL id q qd l) t = cool id q qd (nth l t)
  | [], t => by rw [coolL, nth, cool] <;> nofun
  | x :: r, 0 => by rw [coolL, nth, nth]
  | x :: r, t + 1 => by rw [coolL, nth, nth]; exact nth_cool id q qd r t
theorem cool_ref {id j o : Nat} {q qd p : PV} (hq : q ≠ .ref j o) (hqd : qd ≠ .ref j o) (h : cool id q qd p = .ref j o) : p = .ref j o := by
  cases p with
  | own i =>
    rw [Pv.cool] at h
    split at h
    · exact absurd h hq
    · cases h
  | oelem i z n k =>
    rw [Pv.cool] at h
    split at h <;> cases h
  | sub i n =>
    rw [Pv.cool] at h
    split at h <;> cases h
  | deep i =>
    rw [Pv.cool] at h
    split at h
    · exact absurd h hqd
    · cases h
  | _ => rw [Pv.cool] at h <;> first | exact h | (cases h; done) | nofun
/-- No pointer, and nothing that may hold one in an interface. -/
def NoPin (q : PV) : Prop := (∀ j o, q ≠ .ref j o) ∧ ∀ f cs, q ≠ .func f cs
theorem NoPin.at {q : PV} (h : NoPin q) (i : Nat) : ¬ pinAt i q = true := by
  cases q with
  | ref j o => exact absurd rfl (h.1 j o)
  | func f cs => exact absurd rfl (h.2 f cs)
  | _ => nofun
theorem cool_pin {id i : Nat} {q qd : PV} {l : List PV} (hq : NoPin q) (hqd : NoPin qd) (h : pinAt i (nth (coolL id q qd l) i) = true) : pinAt i (nth l i) = true := by
  rw [nth_cool] at h
  generalize nth l i = x at h ⊢
  cases x with
  | own j =>
    rw [Pv.cool] at h
    split at h
    · exact absurd h (hq.at i)
    · cases h
  | deep j =>
    rw [Pv.cool] at h
    split at h
    · exact absurd h (hqd.at i)
    · cases h
  | func f cs =>
    rw [Pv.cool] at h
    match cs, h with
    | [x], h =>
      rw [coolL, coolL] at h
      generalize e : Pv.cool id q qd x = y at h
      cases y with
      | ref j o =>
        have := cool_ref (hq.1 j o) (hqd.1 j o) e
        rw [this]
        exact h
      | _ => cases h
    | [], h => cases h
    | x :: y :: r, h =>
      rw [coolL, coolL] at h
      cases hx : Pv.cool id q qd x <;> rw [hx] at h <;> cases h
  | oelem j z n k =>
    rw [Pv.cool] at h
    split at h <;> cases h
  | sub j n =>
    rw [Pv.cool] at h
    split at h <;> cases h
  | _ => rw [Pv.cool] at h <;> first | exact h | (cases h; done) | nofun
theorem len_cool (id : Nat) (q qd : PV) : ∀ l : List PV, (coolL id q qd l).length = l.length
  | [] => rfl
  | x :: r => by simp only [coolL, List.length_cons, len_cool id q qd r]
theorem look_cool (id : Nat) (q qd : PV) : ∀ (l : List (Nat × Blk)) (j : Nat) (b : Blk), look j (coolB id q qd l) = some b → ∃ b0, look j l = some b0 ∧ (match b0 with | .box t cs => b = .box t (coolL id q qd cs) | .row e t x => b = .row e t x | .map k v x => b = .map k v x | .deep e e' t x o => b = .deep e e' t x o)
  | [], j, b, h => by simp [coolB, look] at h
  | (i, .box t cs) :: r, j, b, h => by
    rw [coolB, look] at h
    rw [look]
    by_cases hj : i = j
    · subst hj
      rw [if_pos (by simp)] at h ⊢
      exact ⟨_, rfl, (Option.some.inj h).symm⟩
    · rw [if_neg (by simpa using hj)] at h ⊢
      exact look_cool id q qd r j b h
  | (i, .row e t x) :: r, j, b, h => by
    rw [coolB, look] at h
    rw [look]
    by_cases hj : i = j
    · subst hj
      rw [if_pos (by simp)] at h ⊢
      exact ⟨_, rfl, (Option.some.inj h).symm⟩
    · rw [if_neg (by simpa using hj)] at h ⊢
      exact look_cool id q qd r j b h
  | (i, .map k v x) :: r, j, b, h => by
    rw [coolB, look] at h
    rw [look]
    by_cases hj : i = j
    · subst hj
      rw [if_pos (by simp)] at h ⊢
      exact ⟨_, rfl, (Option.some.inj h).symm⟩
    · rw [if_neg (by simpa using hj)] at h ⊢
      exact look_cool id q qd r j b h
  | (i, .deep e e' t x o) :: r, j, b, h => by
    rw [coolB, look] at h
    rw [look]
    by_cases hj : i = j
    · subst hj
      rw [if_pos (by simp)] at h ⊢
      exact ⟨_, rfl, (Option.some.inj h).symm⟩
    · rw [if_neg (by simpa using hj)] at h ⊢
      exact look_cool id q qd r j b h
/-- A row of the call's own, read as a row that is only read. -/
theorem BR.view {own' : Nat → Prop} {id : Nat} {e : TypeId} {t : Ty} {l : List t.den} (h : BR ρ own w id (.row e t l)) (ho : ∀ g, own' g → own g) (hn : ∀ g, g ∈ blks (ρ id) → ¬ own' g) (o : Bool) : RdC own' w (.list o e t) l [ρ id] := by
  rcases h with ⟨⟨A, e1⟩, e2⟩ | ⟨g, k, vs, e1, h1, h2, hh, h3, h5⟩
  · rw [e1]
    subst e2
    exact RdC_list_nil
  · rw [e1, RdC.eq_def]
    refine ⟨_, _, rfl, h1, h2, fun q => (by cases q), fun i y hy => ?_⟩
    have hi : i < l.length := by
      rcases Nat.lt_or_ge i l.length with q | q
      · exact q
      · simp [List.getElem?_eq_none q] at hy
    have hm : l.length * t.sz ≤ (k + 1) * t.sz := Nat.mul_le_mul_right _ h1
    have hm' : (i + 1) * t.sz ≤ l.length * t.sz := Nat.mul_le_mul_right _ hi
    rw [Nat.add_mul, Nat.one_mul] at hm'
    have hg : g < w.heap.size := by
      rcases Nat.lt_or_ge g w.heap.size with q | q
      · exact q
      · simp [Array.getElem?_eq_none q] at hh
    refine ⟨_, (vs.toList.drop (i * t.sz)).take t.sz, rfl, hn g (in_blk (by rw [e1]; rfl)), hg, by simp; omega, (h5 i y hy).move (Agree.refl _ _) (fun g _ q => ho g q), fun j z hj => ?_⟩
    rw [Addr.add_lit, cell_of_block hh]
    rw [List.getElem?_take] at hj
    split at hj
    · rw [List.getElem?_drop] at hj
      simpa using hj
    · cases hj
/-- A row of rows, read as rows that are only read. -/
theorem DeepR.view {own' : Nat → Prop} {v A : Value} {us : List Value} {e e' : TypeId} {t : Ty} {l : List (List t.den)} (h : DeepR own w v e e' t l none) (hv : v = .agg (A :: us).toArray) (ho : ∀ g, own' g → own g) (hn : ∀ g, g ∈ blks v → ¬ own' g) (o : Bool) : RdC own' w (.list o e (.list false e' t)) l [A] := by
  obtain ⟨B, vs, e1, h1, h2, h3, h4⟩ := h
  have hv0 := hv
  rw [e1] at hv
  obtain ⟨rfl, rfl⟩ := agg_head hv
  rcases h3 with ⟨⟨A0, e2⟩, e3⟩ | ⟨g, c, cs, e2, k1, k2, hh, k3, k4⟩
  · subst e3
    rw [e2]
    exact RdC_list_nil
  · rw [e2, RdC.eq_def]
    refine ⟨_, _, rfl, k1, k2, fun q => (by cases q), fun i y hy => ?_⟩
    have hi : i < l.length := by
      rcases Nat.lt_or_ge i l.length with q | q
      · exact q
      · simp [List.getElem?_eq_none q] at hy
    have hg : g < w.heap.size := by
      rcases Nat.lt_or_ge g w.heap.size with q | q
      · exact q
      · simp [Array.getElem?_eq_none q] at hh
    have hu : vs[i]? = some vs[i] := List.getElem?_eq_getElem (by omega)
    have hr := h4 i y _ hy hu
    rw [if_neg (by simp)] at hr
    have hmem : vs[i] ∈ vs := List.getElem_mem ..
    have hsub : ∀ q, q ∈ blks1 vs[i] → ¬ own' q := fun q hq => hn q (by rw [hv0]; exact blks_agg hq (List.mem_cons_of_mem _ hmem))
    have hrow : RdC own' w (.list false e' t) y [vs[i]] := by
      have hb : BR (fun _ => vs[i]) own w 0 (.row e' t y) := hr
      have hbl : blks vs[i] = blks1 vs[i] := by
        rcases hr with ⟨⟨A0, e5⟩, _⟩ | ⟨g5, c5, vs5, e5, _⟩ <;> (rw [e5]; rfl)
      exact BR.view hb ho (fun q hq => hsub q (by rw [← hbl]; exact hq)) false
    refine ⟨⟨g, 0, none⟩, [vs[i]], rfl, hn g (by rw [hv0, e2]; exact blks_agg (u := .slice (some ⟨g, 0, none⟩) l.length (c + 1)) (List.mem_singleton.2 rfl) List.mem_cons_self), hg, rfl, hrow, fun j z hj => ?_⟩
    cases j with
    | succ j => simp at hj
    | zero =>
      simp at hj
      subst hj
      rw [Addr.add_lit, cell_of_block hh]
      have := k4 i _ hu (by simp)
      rw [← this]
      congr 1
      show 0 + (i * 1 + 0) = i
      omega
theorem RelX.coolAs (h : RelX ρ own c s a w) {id : Nat} {b0 : Blk} {q qd : PV} (hng : gst id = false ∨ b0.isRow = false) (hl : look id s.sto = some b0) (hq : VR ρ (fun k => own k ∧ k ∉ blks (ρ id)) w q (ρ id)) (hqd : ∀ v us, ρ id = .agg (v :: us).toArray → VR ρ (fun k => own k ∧ k ∉ blks (ρ id)) w qd v) (hr1 : NoPin q) (hr2 : NoPin qd) :
    RelX ρ (fun k => own k ∧ k ∉ blks (ρ id)) c ⟨coolL id q qd s.env, dropb id (coolB id q qd s.sto)⟩ a w := by
  have lk : ∀ j b, look j (dropb id (coolB id q qd s.sto)) = some b → j ≠ id ∧ ∃ b0, look j s.sto = some b0 ∧ (match b0 with | .box t' cs => b = .box t' (coolL id q qd cs) | .row e t x => b = .row e t x | .map k v x => b = .map k v x | .deep e e' t x o => b = .deep e e' t x o) := by
    intro j b hj
    have := look_drop id _ j b hj
    exact ⟨this.1, look_cool id _ _ s.sto j b this.2⟩
  refine ⟨?_, fun i => ?_, fun j b hj => ?_, fun i j b b' g hi hj h1 h2 => ?_, fun j b g hj h1 => ?_, fun g q => h.lo g q.1, fun g hg => ⟨h.base g hg, fun hm => ?_⟩, h.fr, h.below, h.defers, fun i v hp hi => h.pin i v hp (cool_pin hr1 hr2 hi)⟩
  · show (coolL _ _ _ _).length = _
    rw [len_cool]
    exact h.len
  · show VR _ _ _ (nth (coolL _ _ _ _) i) _
    rw [nth_cool]
    exact VR.cool (fun g q => q.1) hq hqd (h.env i)
  · obtain ⟨hn, b1, h0, hb0⟩ := lk j b hj
    have hbr := h.sto j b1 h0
    cases b1 with
    | box t' cs =>
      subst hb0
      obtain ⟨g, vs, e, hh, hv⟩ := hbr
      exact ⟨g, vs, e, hh, VRs.cool (fun g q => q.1) hq hqd hv⟩
    | row e t x =>
      subst hb0
      exact BR.move (Agree.refl _ _) (fun g _ q => q.1) rfl trivial (fun _ _ => rfl) hbr
    | map k v x =>
      subst hb0
      exact BR.move (Agree.refl _ _) (fun g _ q => q.1) rfl trivial (fun _ _ => rfl) hbr
    | deep e e' t x o =>
      subst hb0
      exact BR.move (Agree.refl _ _) (fun g _ q => q.1) rfl trivial (fun _ _ => rfl) hbr
  · obtain ⟨hn, b1, h0, _⟩ := lk i b hi
    obtain ⟨hn', b1', h0', _⟩ := lk j b' hj
    exact h.apart i j b1 b1' g h0 h0' h1 h2
  · obtain ⟨hn, b1, h0, hb0⟩ := lk j b hj
    have := h.owned j b1 g h0 h1
    have hbr : b.isRow = b1.isRow := by
      cases b1 <;> (subst hb0; rfl)
    rw [hbr]
    exact ⟨⟨this.1, fun k => hn (h.apart j id b1 _ g h0 hl h1 k)⟩, this.2⟩
  · rcases (h.mine hng hl hm).2 with k | k
    · have := h.fr g hg
      omega
    · exact c.dis g hg k
theorem RelX.cool (h : RelX ρ own c s a w) (id : Nat) : ∃ own', RelX ρ own' c (s.cool id) a w ∧ (∀ g, own' g → own g) ∧ (gst id = false → ∀ e t l, look id s.sto = some (.row e t l) → VR ρ own' w (.row e t l) (ρ id)) := by
  unfold St.cool
  split
  · rename_i hg
    exact ⟨own, h, fun _ q => q, fun q => by rw [q] at hg; cases hg⟩
  rename_i hng
  have hng : gst id = false := by simpa using hng
  split
  · rename_i e t l hl
    have hview : VR ρ (fun k => own k ∧ k ∉ blks (ρ id)) w (.row e t l) (ρ id) := by
      rw [VR]
      exact (h.sto id _ hl).view (fun g q => q.1) (fun g hg q => q.2 hg) false
    exact ⟨_, h.coolAs (.inl hng) hl hview (fun v us _ => by rw [VR]; trivial) ⟨fun _ _ => by nofun, fun _ _ => by nofun⟩ ⟨fun _ _ => by nofun, fun _ _ => by nofun⟩, fun g q => q.1, fun _ e' t' l' hl' => by rw [hl] at hl'; cases hl'; exact hview⟩
  · rename_i e e' t l hl
    refine ⟨_, h.coolAs (.inl hng) hl (by rw [VR]; trivial) (fun v us ev => ?_) ⟨fun _ _ => by nofun, fun _ _ => by nofun⟩ ⟨fun _ _ => by nofun, fun _ _ => by nofun⟩, fun g q => q.1, fun _ e' t' l' hl' => by rw [hl] at hl'; cases hl'⟩
    rw [VR]
    exact DeepR.view (h.sto id _ hl) ev (fun g q => q.1) (fun g hg q => q.2 hg) false
  · rename_i hno _
    exact ⟨own, h, fun _ q => q, fun _ e t l hl => absurd hl (hno e t l)⟩
theorem RelX.cools (h : RelX ρ own c s a w) : ∀ ids : List Nat, ∃ own', RelX ρ own' c (s.cools ids) a w ∧ ∀ g, own' g → own g := by
  intro ids
  induction ids generalizing s own with
  | nil => exact ⟨own, h, fun _ q => q⟩
  | cons i r ih =>
    obtain ⟨o1, h1, q1, _⟩ := h.cool i
    obtain ⟨o2, h2, q2⟩ := ih h1
    exact ⟨o2, h2, fun g q => q1 g (q2 g q)⟩
end
end Go.Proofs.Ytbaekdcacmoniaa.Pv
