/- Places laid anew at a point. -/
import Derived.Test.YtbaekdcacmoniaaPv15
namespace Go.Proofs.Ytbaekdcacmoniaa.Pv
open Go Go.RowKit

section
variable {ρ : Nat → Value} {own : Nat → Prop} {W0 : World} {c : Cx W0} {w : World} {s : St} {a : Act}
theorem RelX.envAt {ρ : Nat → Value} {own : Nat → Prop} {s : St} {a : Act} {w : World} (h : RelX ρ own c s a w) {t : Nat} {b : Bool} (hb : nth s.env t = .bool b) : a.tmps.getD t undef = .bool b := by
  have := h.env t
  rw [hb, VR] at this
  exact this
theorem RelX.same {ρ : Nat → Value} {own : Nat → Prop} {s : St} {a : Act} {w : World} (h : RelX ρ own c s a w) {t : Nat} {p : PV} (hp : VR ρ own w p (a.tmps.getD t undef)) : RelX ρ own c (s.puto (some t) p) a w := by
  refine ⟨?_, fun i => ?_, h.sto, h.apart, h.owned, h.lo, h.base, h.fr, h.below, h.defers, fun i v hc hi => ?_⟩
  · show (put s.env t (unpin t p)).length = _
    rw [len_put]
    exact h.len
  · show VR ρ own w (nth (put s.env t (unpin t p)) i) _
    rw [nth_put]
    split
    · rename_i e
      rw [e.1]
      exact VR_unpin t hp
    · exact h.env i
  · have hi' : pinAt i (nth (put s.env t (unpin t p)) i) = true := hi
    rw [nth_put] at hi'
    split at hi'
    · rename_i e
      rw [e.1] at hi'
      exact absurd hi' (unpin_ne t p)
    · exact h.pin i v hc hi'
theorem guardV_some {R : Type} {r : R} {v : PV} {K : Bool → Option R} {Z : Option R} (h : guardV v K Z = some r) : (∃ b, v = .bool b ∧ K b = some r) ∨ (v = .tuple [] ∧ Z = some r) := by
  unfold guardV at h
  split at h
  · exact .inl ⟨_, rfl, h⟩
  · exact .inr ⟨rfl, h⟩
  · cases h
theorem VR_void : VR ρ own w (.tuple []) undef := by
  rw [VR]
  exact ⟨#[], rfl, by rw [VRs]⟩
theorem VRs.put {p : PV} : ∀ {cs : List PV} {vs : List Value} (i : Nat), (∀ v, VR ρ own w (Pv.nth cs i) v → VR ρ own w p v) → VRs ρ own w cs vs → VRs ρ own w (put cs i p) vs
  | [], _, i, _, h => h
  | q :: cs, vs, 0, hq, h => by
    rw [VRs] at h
    obtain ⟨v, r, e, h1, h2⟩ := h
    rw [Pv.put, VRs]
    exact ⟨v, r, e, hq v h1, h2⟩
  | q :: cs, vs, i + 1, hq, h => by
    rw [VRs] at h
    obtain ⟨v, r, e, h1, h2⟩ := h
    rw [Pv.put, VRs]
    exact ⟨v, r, e, h1, VRs.put i hq h2⟩
/-- Something more is known of a place. -/
theorem RelX.know (h : RelX ρ own c s a w) (l : Loc) {p : PV} (hq : ∀ v, VR ρ own w (s.get l) v → VR ρ own w p v) : RelX ρ own c (s.know l p) a w := by
  cases l with
  | tmp t => exact h.same (hq _ (h.env t))
  | cell b i =>
    unfold St.know
    simp only
    split
    · rename_i t cs hl
      obtain ⟨g, vs, e, hh, hv⟩ := h.sto b _ hl
      have hg : St.get s (.cell b i) = nth cs i := by simp only [St.get, hl]
      rw [hg] at hq
      exact h.turn hl (b' := .box t (put cs i p)) (g := g) (in_blk (by rw [e]; rfl)) (Agree.refl _ _) h.below (fun _ _ _ => rfl) ⟨g, vs, e, hh, VRs.put i hq hv⟩
    · exact h
theorem RowR_at {ρ : Nat → Value} {own : Nat → Prop} {w : World} {id id' : Nat} {e : TypeId} {t : Ty} {l : List t.den} (he : ρ id' = ρ id) (h : BR ρ own w id (.row e t l)) : BR ρ own w id' (.row e t l) := by
  have h' : RowR own w (ρ id) e t l := h
  rw [← he] at h'
  exact h'
/-- A row under another label. -/
theorem RelX.relabelAs {ρ1 : Nat → Value} {m : St} (u : RelX ρ1 own c m a w) {id L : Nat} {bk : Blk} {q qd : PV} (hng : gst id = false ∨ bk.isRow = false) (hl : look id m.sto = some bk) (eq : ρ1 id = ρ1 L) (hq : VR ρ1 own w q (ρ1 id)) (hqd : ∀ v us, ρ1 id = .agg (v :: us).toArray → VR ρ1 own w qd v) (hr1 : NoPin q) (hr2 : NoPin qd) (hbk : BR ρ1 own w L bk) :
    RelX ρ1 own c ⟨coolL id q qd m.env, (L, bk) :: dropb id (coolB id q qd m.sto)⟩ a w := by
  have lk : ∀ j b, look j ((L, bk) :: dropb id (coolB id q qd m.sto)) = some b → (j = L ∧ b = bk) ∨ (j ≠ L ∧ j ≠ id ∧ ∃ b0, look j m.sto = some b0 ∧ (match b0 with | .box t cs => b = .box t (coolL id q qd cs) | .row e t x => b = .row e t x | .map k v x => b = .map k v x | .deep e e' t x o => b = .deep e e' t x o)) := by
    intro j b hj
    by_cases ej : L = j
    · subst ej
      rw [look_cons_same] at hj
      cases hj
      exact .inl ⟨rfl, rfl⟩
    · rw [look_cons_ne _ _ ej] at hj
      have := look_drop id _ j b hj
      exact .inr ⟨fun q => ej q.symm, this.1, look_cool id _ _ m.sto j b this.2⟩
  refine ⟨?_, fun i => ?_, fun j b hj => ?_, fun i j b b' g hi hj h1 h2 => ?_, fun j b g hj h1 => ?_, u.lo, u.base, u.fr, u.below, u.defers, fun i v hp hi => u.pin i v hp (cool_pin hr1 hr2 hi)⟩
  · show (coolL _ _ _ _).length = _
    rw [len_cool]
    exact u.len
  · show VR _ _ _ (nth (coolL _ _ _ _) i) _
    rw [nth_cool]
    exact VR.cool (fun g q => q) hq hqd (u.env i)
  · rcases lk j b hj with ⟨rfl, rfl⟩ | ⟨hjL, hjid, b0, h0, hb0⟩
    · exact hbk
    · have hbr := u.sto j b0 h0
      cases b0 with
      | box t' cs =>
        subst hb0
        obtain ⟨g, vs, e, hh, hv⟩ := hbr
        exact ⟨g, vs, e, hh, VRs.cool (fun g q => q) hq hqd hv⟩
      | row e t x =>
        subst hb0
        exact hbr
      | map k v x =>
        subst hb0
        exact hbr
      | deep e e' t x o =>
        subst hb0
        exact hbr
  · rcases lk i b hi with ⟨rfl, rfl⟩ | ⟨hiL, hiid, b0, h0, hb0⟩
    · rcases lk j b' hj with ⟨rfl, rfl⟩ | ⟨hjL, hjid, b0', h0', hb0'⟩
      · rfl
      · rw [← eq] at h1
        exact absurd (u.apart id j _ b0' g hl h0' h1 h2).symm hjid
    · rcases lk j b' hj with ⟨rfl, rfl⟩ | ⟨hjL, hjid, b0', h0', hb0'⟩
      · rw [← eq] at h2
        exact absurd (u.apart i id b0 _ g h0 hl h1 h2) hiid
      · exact u.apart i j b0 b0' g h0 h0' h1 h2
  · rcases lk j b hj with ⟨rfl, rfl⟩ | ⟨hjL, hjid, b0, h0, hb0⟩
    · rw [← eq] at h1
      exact ⟨(u.mine hng hl h1).1, (u.mine hng hl h1).2.elim .inl (fun k => .inr (.inl k))⟩
    · have hbr : b.isRow = b0.isRow := by
        cases b0 <;> (subst hb0; rfl)
      rw [hbr]
      exact u.owned j b0 g h0 h1
theorem RelX.relabel (h : RelX ρ own c s a w) (id L : Nat) (hne : id ≠ L) : ∃ ρ' own', RelX ρ' own' c (s.relabel id L) a w := by
  have u : RelX (upd ρ L (ρ id)) own c (s.used L) a w := h.used L (ρ id) (Agree.refl _ _) h.below (fun _ _ q => q) (fun j b g _ hj hg => ⟨rfl, (h.owned j b g hj hg).1⟩) h.lo h.base
  have eq : upd ρ L (ρ id) id = upd ρ L (ρ id) L := by rw [upd_ne _ _ hne, upd_same]
  unfold St.relabel
  split
  · exact ⟨ρ, own, h⟩
  rename_i hng
  have hng : gst id = false := by simpa using hng
  split
  · rename_i e t l hl
    have hb := u.sto id _ hl
    have hag : isAggV (upd ρ L (ρ id) id) = false := by
      rcases hb with ⟨⟨A, e1⟩, _⟩ | ⟨g, k, vs, e1, _⟩ <;> (rw [e1]; rfl)
    exact ⟨_, own, u.relabelAs (.inl hng) hl eq (by rw [VR]; exact ⟨eq, hag⟩) (fun v us _ => by rw [VR]; trivial) ⟨fun _ _ => by nofun, fun _ _ => by nofun⟩ ⟨fun _ _ => by nofun, fun _ _ => by nofun⟩ (RowR_at eq.symm hb)⟩
  · rename_i e e' t l hl
    have hb : DeepR own w (upd ρ L (ρ id) id) e e' t l none := u.sto id _ hl
    exact ⟨_, own, u.relabelAs (.inl hng) hl eq (by rw [VR]; trivial) (fun v us ev => by rw [VR]; exact ⟨us, by rw [← eq]; exact ev⟩) ⟨fun _ _ => by nofun, fun _ _ => by nofun⟩ ⟨fun _ _ => by nofun, fun _ _ => by nofun⟩ (by show DeepR own w (upd ρ L (ρ id) L) e e' t l none; rw [← eq]; exact hb)⟩
  · exact ⟨ρ, own, h⟩
theorem RelX.norm (h : RelX ρ own c s a w) (n : Norm) : ∃ ρ' own', RelX ρ' own' c (s.norm n) a w := by
  unfold St.norm
  split
  · rename_i e1 e2
    exact ⟨ρ, own, h.know n.loc fun v hv => by rw [e1, VR] at hv; rw [VR, hv]; exact RdC_list_nil⟩
  · rename_i e1 e2
    exact ⟨ρ, own, h.know n.loc fun v hv => by rw [e1, VR] at hv; obtain ⟨A, hv⟩ := hv; rw [VR, hv]; exact RdC_list_nil⟩
  · rename_i L e1 e2
    have h1 := h.add L (.slice none 0 0) (.row n.e n.t []) (Agree.refl _ _) h.below (fun _ _ q => q) (fun j b g _ hj hg => ⟨rfl, (h.owned j b g hj hg).1⟩) h.lo h.base (fun j b g _ hj hg q => by cases q) (fun g q => by cases q) (.inl ⟨⟨none, upd_same _ _ _⟩, rfl⟩)
    split
    · rename_i e3
      exact ⟨_, _, h1.know n.loc fun v hv => by rw [e3, VR] at hv; rw [VR, hv]; exact ⟨(upd_same _ _ _).symm, rfl⟩⟩
    · exact ⟨_, _, h1⟩
  · rename_i id e1 e2
    obtain ⟨own', h', _⟩ := h.cool id
    exact ⟨ρ, own', h'⟩
  · rename_i id L e1 e2
    split
    · exact ⟨ρ, own, h⟩
    · rename_i hne
      exact h.relabel id L (fun e => hne (by rw [e]; exact Nat.beq_refl L))
  · rename_i id e1 e2
    obtain ⟨own', h', _⟩ := h.cool id
    exact ⟨ρ, own', h'⟩
  · rename_i id L e1 e2
    split
    · exact ⟨ρ, own, h⟩
    · rename_i hne
      exact h.relabel id L (fun e => hne (by rw [e]; exact Nat.beq_refl L))
  · exact ⟨ρ, own, h⟩
theorem RelX.norms : ∀ (l : List Norm) {ρ : Nat → Value} {own : Nat → Prop} {s : St}, RelX ρ own c s a w → ∃ ρ' own', RelX ρ' own' c (s.norms l) a w
  | [], ρ, own, _, h => ⟨ρ, own, h⟩
  | n :: l, _, _, _, h => by
    obtain ⟨ρ1, own1, h1⟩ := h.norm n
    exact RelX.norms l h1
end
end Go.Proofs.Ytbaekdcacmoniaa.Pv
