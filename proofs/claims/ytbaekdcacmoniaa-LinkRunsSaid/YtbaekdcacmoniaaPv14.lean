/- Calls: what a call is given, what it hands back. -/
import Derived.Test.YtbaekdcacmoniaaPv13
namespace Go.Proofs.Ytbaekdcacmoniaa.Pv
open Go Go.RowKit

/-- A call's result, cell by cell; gs: the blocks of the rows that are the caller's own from now on. -/
def ResR (own : Nat → Prop) (w : World) : List Nat → (t : Ty) → t.den → List Value → Prop
  | gs, .int k, n, cs => gs = [] ∧ cs = [.int k n]
  | gs, .bool, b, cs => gs = [] ∧ cs = [.bool b]
  | gs, .str, s, cs => gs = [] ∧ cs = [.string s]
  | gs, .list true e t, l, cs => ∃ v V, cs = [v] ∧ VR (fun _ => V) own w (rowP 0 t) v ∧ BR (fun _ => V) own w 0 (rowB e t l) ∧ gs = blks V
  | gs, .list false e t, l, cs => gs = [] ∧ RdC own w (.list false e t) l cs
  | gs, .prod a b, p, cs => ∃ g0 g1 c0 c1, gs = g0 ++ g1 ∧ cs = c0 ++ c1 ∧ ResR own w g0 a p.1 c0 ∧ ResR own w g1 b p.2 c1
  | gs, .unit, _, cs => gs = [] ∧ cs = []
  | gs, .tag q ag t, x, cs => gs = [] ∧ RdC own w (.tag q ag t) x cs
theorem RdC.flat {own own' : Nat → Prop} {w w' : World} : ∀ {t : Ty} {x : t.den} {cs : List Value}, t.flat = true → RdC own w t x cs → RdC own' w' t x cs
  | .int _, _, _, _, h => by rw [RdC.eq_def] at h ⊢; exact h
  | .bool, _, _, _, h => by rw [RdC.eq_def] at h ⊢; exact h
  | .str, _, _, _, h => by rw [RdC.eq_def] at h ⊢; exact h
  | .list _ _ _, _, _, hf, _ => by cases hf
  | .prod a b, _, _, hf, h => by
    rw [Ty.flat, Bool.and_eq_true] at hf
    rw [RdC.eq_def] at h ⊢
    obtain ⟨c0, c1, e, h0, h1⟩ := h
    exact ⟨c0, c1, e, h0.flat hf.1, h1.flat hf.2⟩
  | .unit, _, _, _, h => by rw [RdC.eq_def] at h ⊢; exact h
  | .tag _ _ t, _, _, hf, h => by
    rw [RdC.eq_def] at h ⊢
    obtain ⟨u, e, h⟩ := h
    exact ⟨u, e, h.flat hf⟩
theorem RowR.sub {own own' : Nat → Prop} {w : World} {v : Value} {e : TypeId} {t : Ty} {l : List t.den} (h : RowR own w v e t l) (hs : ∀ x u, RdC own w t x u → RdC own' w t x u) : RowR own' w v e t l := by
  rcases h with ⟨⟨A, e1⟩, e2⟩ | ⟨g, k, vs, e1, h1, h2, hh, h3, h5⟩
  · exact .inl ⟨⟨A, e1⟩, e2⟩
  · exact .inr ⟨g, k, vs, e1, h1, h2, hh, h3, fun i x hx => hs _ _ (h5 i x hx)⟩
theorem DeepR.sub {own own' : Nat → Prop} {w : World} {v : Value} {e e' : TypeId} {t : Ty} {l : List (List t.den)} {hole : Option Int} (h : DeepR own w v e e' t l hole) (hs : ∀ x u, RdC own w t x u → RdC own' w t x u) : DeepR own' w v e e' t l hole := by
  obtain ⟨A, us, e1, h1, h2, h3, h4⟩ := h
  refine ⟨A, us, e1, h1, h2, h3, fun i x u hx hu => ?_⟩
  have := h4 i x u hx hu
  split at this
  · rename_i hi
    rw [if_pos hi]
    exact this
  · rename_i hi
    rw [if_neg hi]
    exact this.sub hs
/-- A row's block, by its elements' type. -/
theorem rowB_cases (e : TypeId) : ∀ (t : Ty) (l : List t.den), ((∀ e, rowB e t l = .row e t l) ∧ ∀ b, rowP b t = .own b) ∨ ∃ e' t', t = .list true e' t'
  | .list true e' t', l => .inr ⟨e', t', rfl⟩
  | .list false _ _, l => .inl ⟨fun _ => rfl, fun _ => rfl⟩
  | .int _, l => .inl ⟨fun _ => rfl, fun _ => rfl⟩
  | .bool, l => .inl ⟨fun _ => rfl, fun _ => rfl⟩
  | .str, l => .inl ⟨fun _ => rfl, fun _ => rfl⟩
  | .prod _ _, l => .inl ⟨fun _ => rfl, fun _ => rfl⟩
  | .unit, l => .inl ⟨fun _ => rfl, fun _ => rfl⟩
  | .tag _ _ _, l => .inl ⟨fun _ => rfl, fun _ => rfl⟩
theorem BR.sub {ρ ρ' : Nat → Value} {own own' : Nat → Prop} {w : World} {id id' : Nat} {e : TypeId} {t : Ty} {l : List t.den} (h : BR ρ own w id (rowB e t l)) (he : ρ' id' = ρ id) (hs : t.flat = true ∨ ∀ g, own' g → own g) : BR ρ' own' w id' (rowB e t l) := by
  rcases rowB_cases e t l with ⟨e1, _⟩ | ⟨e', t', rfl⟩
  · rw [e1] at h ⊢
    show RowR own' w (ρ' id') e t l
    rw [he]
    refine RowR.sub (own := own) h (fun x u q => ?_)
    rcases hs with hf | hs
    · exact q.flat hf
    · exact q.move (Agree.refl _ _) (fun g _ => hs g)
  · show DeepR own' w (ρ' id') e e' t' l none
    rw [he]
    refine DeepR.sub (own := own) h (fun x u q => ?_)
    rcases hs with hf | hs
    · cases hf
    · exact q.move (Agree.refl _ _) (fun g _ => hs g)
theorem VR_rowP {ρ ρ' : Nat → Value} {own own' : Nat → Prop} {w w' : World} {b b' : Nat} {t : Ty} {v : Value} (h : VR ρ own w (rowP b t) v) (he : ρ' b' = ρ b) : VR ρ' own' w' (rowP b' t) v := by
  rcases rowB_cases 0 t ([] : List t.den) with ⟨_, e1⟩ | ⟨e', t', rfl⟩
  · rw [e1, VR] at h ⊢
    rw [he]
    exact h
  · have h' : VR ρ own w (.deep b) v := h
    show VR ρ' own' w' (.deep b') v
    rw [VR] at h' ⊢
    rw [he]
    exact h'
theorem holds_rowP (i b : Nat) (t : Ty) : Pv.holds i (rowP b t) = Nat.beq b i := by
  rcases rowB_cases 0 t ([] : List t.den) with ⟨_, e1⟩ | ⟨e', t', rfl⟩
  · rw [e1]
    rfl
  · rfl
/-- In the caller's world: what is stable for the callee's own blocks, or holds nothing. -/
theorem ResR.sub {own own' : Nat → Prop} {w : World} : ∀ {t : Ty} {gs : List Nat} {x : t.den} {cs : List Value}, (t.lends = true → ∀ g, own' g → own g) → ResR own w gs t x cs → ResR own' w gs t x cs
  | .int _, _, _, _, _, h => by rw [ResR.eq_def] at h ⊢; exact h
  | .bool, _, _, _, _, h => by rw [ResR.eq_def] at h ⊢; exact h
  | .str, _, _, _, _, h => by rw [ResR.eq_def] at h ⊢; exact h
  | .list true e t, _, _, _, hl, h => by
    rw [ResR.eq_def] at h ⊢
    obtain ⟨v, V, e, hv, hb, hg⟩ := h
    refine ⟨v, V, e, VR_rowP hv rfl, hb.sub rfl ?_, hg⟩
    cases hf : t.flat with
    | true => exact .inl rfl
    | false => exact .inr (hl (by simp [Ty.lends, hf]))
  | .list false e t, _, _, _, hl, h => by
    rw [ResR.eq_def] at h ⊢
    exact ⟨h.1, h.2.move (Agree.refl _ _) (fun g _ => hl (by simp [Ty.lends]) g)⟩
  | .prod a b, _, _, _, hl, h => by
    rw [ResR.eq_def] at h ⊢
    obtain ⟨g0, g1, c0, c1, e, e', h0, h1⟩ := h
    exact ⟨g0, g1, c0, c1, e, e', h0.sub (fun q => hl (by simp [Ty.lends, q])), h1.sub (fun q => hl (by simp [Ty.lends, q]))⟩
  | .unit, _, _, _, _, h => by rw [ResR.eq_def] at h ⊢; exact h
  | .tag q ag t, _, _, _, hl, h => by
    rw [ResR.eq_def] at h ⊢
    refine ⟨h.1, ?_⟩
    cases hf : t.flat with
    | true => exact h.2.flat (t := .tag q ag t) hf
    | false => exact h.2.move (Agree.refl _ _) (fun g _ => hl (by simp [Ty.lends, hf]) g)
section
variable {R : Type} {r : R} {ρ : Nat → Value} {own : Nat → Prop} {W0 : World} {c : Cx W0} {w w1 : World} {s : St} {a : Act} {P : Program}
/-- What is found after the labels for a result's rows. -/
structure Laid (ρ : Nat → Value) (own : Nat → Prop) {W0 : World} (c : Cx W0) (s : St) (a : Act) (w : World) (gs : List Nat) (cells : List Value) (b : Nat) (cs : List PV) (b' : Nat) (s' : St) (ρ' : Nat → Value) : Prop where
  rel : RelX ρ' own c s' a w
  vals : VRs ρ' own w cs cells
  le : b ≤ b'
  holds : ∀ i, holdsL i cs = true → b ≤ i ∧ i < b'
  keep : ∀ i, (i < b ∨ b' ≤ i) → ρ' i = ρ i
  blocks : ∀ j x g, look j s'.sto = some x → g ∈ blks (ρ' j) → g ∈ gs ∨ ∃ j0 x0, look j0 s.sto = some x0 ∧ g ∈ blks (ρ j0)
theorem laid_plain (h : RelX ρ own c s a w) {p : PV} {v : Value} (hv : VR ρ own w p v) (hp : ∀ i, Pv.holds i p = false) (b : Nat) : Laid ρ own c s a w [] [v] b [p] b s ρ :=
  ⟨h, by rw [VRs]; exact ⟨v, [], rfl, hv, by rw [VRs]⟩, Nat.le_refl _, fun i hi => (by rw [holdsL, hp, holdsL] at hi; cases hi), fun _ _ => rfl, fun j x g hj hg => .inr ⟨j, x, hj, hg⟩⟩
theorem holdsL_append (i : Nat) : ∀ cs ds : List PV, holdsL i (cs ++ ds) = (holdsL i cs || holdsL i ds)
  | [], ds => by simp [holdsL]
  | p :: cs, ds => by rw [List.cons_append, holdsL, holdsL, holdsL_append i cs ds, Bool.or_assoc]
theorem holdsL_cells (i : Nat) : ∀ (t : Ty) (x : t.den), holdsL i (cells t x) = false
  | .int _, _ => rfl
  | .bool, _ => rfl
  | .str, _ => rfl
  | .list _ _ _, _ => rfl
  | .prod a b, x => by
    rw [cells, holdsL_append, holdsL_cells i a x.1, holdsL_cells i b x.2]
    rfl
  | .unit, _ => rfl
  | .tag q ag t, x => by
    have := holdsL_cells i t x
    cases ag <;> simp [cells, holdsL, Pv.holds, this]
theorem holds_tag (i : Nat) (q : TypeId) (ag : Bool) (t : Ty) (x : t.den) : Pv.holds i (.func (1000000 + q) (if ag = true then [.agg (cells t x)] else cells t x)) = false := by
  have := holdsL_cells i (.tag q ag t) x
  rw [cells, holdsL, Bool.or_eq_false_iff] at this
  exact this.1
theorem resCells_sound : ∀ {t : Ty} {x : t.den} {b : Nat} {s : St} {ρ : Nat → Value} {K : List PV → Nat → St → Option R} {gs : List Nat} {cells : List Value}, resCells t x b s K = some r → RelX ρ own c s a w → ResR own w gs t x cells →
    (∀ g, g ∈ gs → own g ∧ (c.w0.heap.size ≤ g ∨ c.L g)) → gs.Nodup → (∀ j y g, look j s.sto = some y → g ∈ blks (ρ j) → g ∉ gs) → ∃ cs b' s' ρ', K cs b' s' = some r ∧ Laid ρ own c s a w gs cells b cs b' s' ρ'
  | .int k, x, b, s, ρ, K, gs, cells, h, hr, hR, _, _, _ => by
    rw [ResR.eq_def] at hR
    obtain ⟨rfl, rfl⟩ := hR
    rw [resCells] at h
    exact ⟨_, _, _, ρ, h, laid_plain hr (by rw [VR]) (fun i => rfl) b⟩
  | .bool, x, b, s, ρ, K, gs, cells, h, hr, hR, _, _, _ => by
    rw [ResR.eq_def] at hR
    obtain ⟨rfl, rfl⟩ := hR
    rw [resCells] at h
    exact ⟨_, _, _, ρ, h, laid_plain hr (by rw [VR]) (fun i => rfl) b⟩
  | .str, x, b, s, ρ, K, gs, cells, h, hr, hR, _, _, _ => by
    rw [ResR.eq_def] at hR
    obtain ⟨rfl, rfl⟩ := hR
    rw [resCells] at h
    exact ⟨_, _, _, ρ, h, laid_plain hr (by rw [VR]) (fun i => rfl) b⟩
  | .list false e t, x, b, s, ρ, K, gs, cells, h, hr, hR, _, _, _ => by
    rw [ResR.eq_def] at hR
    obtain ⟨rfl, hR⟩ := hR
    rw [resCells] at h
    have hR0 := hR
    rw [RdC.eq_def] at hR0
    obtain ⟨A, k, rfl, _⟩ := hR0
    exact ⟨_, _, _, ρ, h, laid_plain hr (by rw [VR]; exact hR) (fun i => rfl) b⟩
  | .list true e t, x, b, s, ρ, K, gs, cells, h, hr, hR, hg, _, hd => by
    rw [ResR.eq_def] at hR
    obtain ⟨v, V, rfl, hv, hb, rfl⟩ := hR
    rw [resCells] at h
    have hmem : ∀ g, g ∈ blks V → g ∈ blks V := fun g q => q
    have hadd := hr.addL b V (rowB e t x) (Agree.refl _ _) hr.below (fun _ _ q => q) (fun j y g _ hj hgj => ⟨rfl, (hr.owned j y g hj hgj).1⟩) hr.lo hr.base (fun j y g _ hj hgj q => hd j y g hj hgj (hmem g q)) (fun g q => hg g (hmem g q)) (hb.sub (upd_same _ _ _) (.inr fun _ q => q))
    refine ⟨_, _, _, upd ρ b V, h, hadd, ?_, Nat.le_succ _, fun i hi => ?_, fun i hi => upd_ne _ _ (by omega), fun j y g hj hgj => ?_⟩
    · rw [VRs]
      exact ⟨v, [], rfl, VR_rowP hv (upd_same _ _ _), by rw [VRs]⟩
    · simp [holdsL, holds_rowP] at hi
      omega
    · have hj' : look j ((b, rowB e t x) :: (s.used b).sto) = some y := hj
      by_cases ej : b = j
      · subst ej
        rw [upd_same] at hgj
        exact .inl (hmem g hgj)
      · rw [look_cons_ne _ _ ej] at hj'
        have q := look_drop b _ j y hj'
        obtain ⟨b0, h0, _⟩ := look_forget b s.sto j y q.2
        rw [upd_ne _ _ q.1] at hgj
        exact .inr ⟨j, b0, h0, hgj⟩
  | .prod t u, x, b, s, ρ, K, gs, cells, h, hr, hR, hg, hn, hd => by
    rw [ResR.eq_def] at hR
    obtain ⟨g0, g1, c0, c1, rfl, rfl, h0, h1⟩ := hR
    rw [resCells] at h
    rw [List.nodup_append] at hn
    obtain ⟨cs, b1, s1, ρ1, h, l1⟩ := resCells_sound h hr h0 (fun g q => hg g (List.mem_append_left _ q)) hn.1 (fun j y g hj hgj q => hd j y g hj hgj (List.mem_append_left _ q))
    obtain ⟨cs', b2, s2, ρ2, h, l2⟩ := resCells_sound h l1.rel h1 (fun g q => hg g (List.mem_append_right _ q)) hn.2.1 (fun j y g hj hgj q => by
      rcases l1.blocks j y g hj hgj with k | ⟨j0, x0, k, k'⟩
      · exact hn.2.2 g k g q rfl
      · exact hd j0 x0 g k k' (List.mem_append_right _ q))
    refine ⟨_, _, _, ρ2, h, l2.rel, (VRs.move (Agree.refl _ _) (fun _ _ q => q) (fun i hi => l2.keep i (.inl (l1.holds i hi).2)) l1.vals).append l2.vals, Nat.le_trans l1.le l2.le, fun i hi => ?_, fun i hi => (l2.keep i (hi.imp (fun q => Nat.lt_of_lt_of_le q l1.le) id)).trans (l1.keep i (hi.imp id (fun q => Nat.le_trans l2.le q))), fun j y g hj hgj => ?_⟩
    · have hq : holdsL i cs = true ∨ holdsL i cs' = true := by
        rw [holdsL_append, Bool.or_eq_true] at hi
        exact hi
      have := l1.le
      have := l2.le
      rcases hq with q | q
      · have := l1.holds i q
        omega
      · have := l2.holds i q
        omega
    · rcases l2.blocks j y g hj hgj with k | ⟨j0, x0, k, k'⟩
      · exact .inl (List.mem_append_right _ k)
      · rcases l1.blocks j0 x0 g k k' with q | q
        · exact .inl (List.mem_append_left _ q)
        · exact .inr q
  | .unit, x, b, s, ρ, K, gs, cells, h, hr, hR, _, _, _ => by
    rw [ResR.eq_def] at hR
    obtain ⟨rfl, rfl⟩ := hR
    rw [resCells] at h
    exact ⟨_, _, _, ρ, h, hr, by rw [VRs], Nat.le_refl _, fun i hi => (by rw [holdsL] at hi; cases hi), fun _ _ => rfl, fun j x g hj hg => .inr ⟨j, x, hj, hg⟩⟩
  | .tag q ag t, x, b, s, ρ, K, gs, cells, h, hr, hR, _, _, _ => by
    rw [ResR.eq_def] at hR
    obtain ⟨rfl, hR⟩ := hR
    rw [resCells] at h
    have hv := VRs_cells (ρ := ρ) hR
    rw [RdC.eq_def] at hR
    obtain ⟨u, rfl, hR⟩ := hR
    rw [Pv.cells] at h hv
    rw [VRs] at hv
    obtain ⟨v, r, e, hv, hn⟩ := hv
    cases e
    exact ⟨_, _, _, ρ, h, laid_plain hr hv (fun i => holds_tag i q ag t x) b⟩
/-- What a function's results are like, by their types. -/
def Shape (P : Program) (t : TypeId) (u : Value) : Prop :=
  match aggT P t with
  | some true => ∃ arr, u = .agg arr ∧ sizeT P t = some arr.size
  | some false => u.cells = #[u]
  | none => False
def Shapes (P : Program) : List TypeId → List Value → Prop
  | [], [] => True
  | t :: ts, u :: us => Shape P t u ∧ Shapes P ts us
  | _, _ => False
theorem deal_sound : ∀ {ts : List TypeId} {cs vs : List PV} {us : List Value}, deal P ts cs = some vs → Shapes P ts us → VRs ρ own w cs (us.flatMap (·.cells.toList)) → VRs ρ own w vs us
  | [], [], vs, [], h, _, _ => by
    rw [deal] at h
    cases h
    rw [VRs]
  | [], c :: cs, vs, us, h, _, _ => by rw [deal] at h; cases h
  | [], [], vs, u :: us, h, hs, _ => by rw [Shapes] at hs <;> first | exact hs.elim | nofun
  | t :: ts, cs, vs, [], h, hs, _ => by rw [Shapes] at hs <;> first | exact hs.elim | nofun
  | t :: ts, cs, vs, u :: us, h, hs, hv => by
    rw [Shapes] at hs
    obtain ⟨hs, hs'⟩ := hs
    unfold Shape at hs
    unfold deal at h
    rw [List.flatMap_cons] at hv
    split at h
    · rename_i ha
      rw [ha] at hs
      obtain ⟨arr, rfl, hz⟩ := hs
      rw [hz] at h
      simp only at h
      split at h
      · rename_i hle
        rw [Option.map_eq_some_iff] at h
        obtain ⟨vs', h, rfl⟩ := h
        have hl : (Value.agg arr).cells.toList.length = arr.size := by simp [Value.cells]
        rw [VRs]
        refine ⟨_, _, rfl, ?_, deal_sound h hs' ?_⟩
        · rw [VR]
          refine ⟨arr, rfl, ?_⟩
          have := hv.take arr.size
          rw [← hl, List.take_left, hl] at this
          exact this
        · have := hv.drop arr.size
          rw [← hl, List.drop_left, hl] at this
          exact this
      · cases h
    · rename_i ha
      rw [ha] at hs
      simp only at hs
      rw [hs] at hv
      split at h
      · rename_i p cs'
        rw [Option.map_eq_some_iff] at h
        obtain ⟨vs', h, rfl⟩ := h
        rw [show (#[u].toList ++ us.flatMap (·.cells.toList)) = u :: us.flatMap (·.cells.toList) from rfl, VRs] at hv
        obtain ⟨v, r, e, h1, h2⟩ := hv
        cases e
        rw [VRs]
        exact ⟨_, _, rfl, h1, deal_sound h hs' h2⟩
      · cases h
    · cases h
def wrapV : List Value → Value
  | [v] => v
  | vs => .tuple vs.toArray
theorem wrap_sound : ∀ {vs : List PV} {us : List Value}, VRs ρ own w vs us → VR ρ own w (wrapRes vs) (wrapV us)
  | [], us, h => by
    have h0 := h
    rw [VRs] at h
    subst h
    show VR ρ own w (.tuple []) (.tuple #[])
    rw [VR]
    exact ⟨#[], rfl, h0⟩
  | [p], us, h => by
    obtain ⟨v, rfl, h1⟩ := VRs_one h
    exact h1
  | p :: q :: vs, us, h => by
    have h0 := h
    rw [VRs] at h
    obtain ⟨v, r, rfl, h1, h2⟩ := h
    rw [VRs] at h2
    obtain ⟨v', r', rfl, h2, h3⟩ := h2
    show VR ρ own w (.tuple (p :: q :: vs)) (.tuple (v :: v' :: r').toArray)
    rw [VR]
    exact ⟨_, rfl, h0⟩
mutual
theorem free_holds (id : Nat) : ∀ {p : PV}, holdsOwn p = false → Pv.holds id p = false
  | .own _, h => by rw [holdsOwn] at h; cases h
  | .ref _ _, h => by rw [holdsOwn] at h; cases h
  | .oelem _ _ _ _, h => by rw [holdsOwn] at h; cases h
  | .deep _, h => by rw [holdsOwn] at h; cases h
  | .delem _ _, h => by rw [holdsOwn] at h; cases h
  | .sub _ _, h => by rw [holdsOwn] at h; cases h
  | .cref cs _, h => by rw [holdsOwn] at h; rw [Pv.holds]; exact free_holdsL id h
  | .func _ cs, h => by rw [holdsOwn] at h; rw [Pv.holds]; exact free_holdsL id h
  | .agg cs, h => by rw [holdsOwn] at h; rw [Pv.holds]; exact free_holdsL id h
  | .tuple cs, h => by rw [holdsOwn] at h; rw [Pv.holds]; exact free_holdsL id h
  | .undef, _ => rfl
  | .int _ _, _ => rfl
  | .bool _, _ => rfl
  | .str _, _ => rfl
  | .nils, _ => rfl
  | .empt, _ => rfl
  | .zrow, _ => rfl
  | .row _ _ _, _ => rfl
  | .nilp, _ => rfl
  | .elem _ _ _, _ => rfl
  | .nilf, _ => rfl
theorem free_holdsL (id : Nat) : ∀ {ps : List PV}, holdsOwnL ps = false → holdsL id ps = false
  | [], _ => rfl
  | p :: ps, h => by
    rw [holdsOwnL, Bool.or_eq_false_iff] at h
    rw [holdsL, free_holds id h.1, free_holdsL id h.2]
    rfl
end
/-- The callee's side: nothing that may change while it runs, unless it is told so. -/
structure Given (F own : Nat → Prop) (p : PV) : Prop where
  sub : ∀ g, F g → own g
  free : (∀ g, ¬ F g) ∨ holdsOwn p = false
theorem VR.free {F : Nat → Prop} {ρ' : Nat → Value} (hF : ∀ g, F g → own g) {p : PV} (hp : holdsOwn p = false) {v : Value} (hv : VR ρ own w p v) : VR ρ' F w p v :=
  hv.move (Agree.refl _ _) (fun g _ q => hF g q) (fun id hi => by rw [free_holds id hp] at hi; cases hi)
theorem view_own (hr : RelX ρ own c s a w) {F : Nat → Prop} {ρ' : Nat → Value} {id : Nat} (hF : Given F own (.own id)) {v : Value} (hv : VR ρ own w (.own id) v) : VR ρ' F w (match look id s.sto with | some (.row e t l) => .row e t l | _ => .undef) v := by
  split
  · rename_i e t l hl
    rw [VR] at hv
    obtain ⟨rfl, _⟩ := hv
    rw [VR]
    refine (hr.sto id _ hl).view hF.sub (fun g _ q => ?_) false
    rcases hF.free with k | k
    · exact k g q
    · cases k
  · rw [VR]
    trivial
theorem view_deep (hr : RelX ρ own c s a w) {F : Nat → Prop} {ρ' : Nat → Value} {id : Nat} (hF : Given F own (.deep id)) {v : Value} (hv : VR ρ own w (.deep id) v) : VR ρ' F w (match look id s.sto with | some (.deep e e' t l none) => .row e (.list false e' t) l | _ => .undef) v := by
  split
  · rename_i e e' t l hl
    rw [VR] at hv
    obtain ⟨us, hv⟩ := hv
    rw [VR]
    refine DeepR.view (hr.sto id _ hl) hv hF.sub (fun g _ q => ?_) false
    rcases hF.free with k | k
    · exact k g q
    · cases k
  · rw [VR]
    trivial
theorem viewIn0_sound (hr : RelX ρ own c s a w) {F : Nat → Prop} {ρ' : Nat → Value} {p : PV} (hF : Given F own p) {v : Value} (hv : VR ρ own w p v) : VR ρ' F w (viewIn0 s p) v := by
  unfold viewIn0
  split
  · exact view_own hr hF hv
  · exact view_deep hr hF hv
  · split
    · rw [VR]
      trivial
    · rename_i hp
      exact hv.free hF.sub (by simpa using hp)
theorem viewList {f : PV → PV} {F : Nat → Prop} {ρ' : Nat → Value} : ∀ {ps : List PV} {vs : List Value}, (∀ p v, p ∈ ps → VR ρ own w p v → VR ρ' F w (f p) v) → VRs ρ own w ps vs → VRs ρ' F w (ps.map f) vs
  | [], _, _, h => by
    rw [VRs] at h
    subst h
    rw [List.map_nil, VRs]
  | p :: ps, _, hf, h => by
    rw [VRs] at h
    obtain ⟨v, r, rfl, h1, h2⟩ := h
    rw [List.map_cons, VRs]
    exact ⟨v, _, rfl, hf p v (List.mem_cons_self) h1, viewList (fun q u hq => hf q u (List.mem_cons_of_mem _ hq)) h2⟩
theorem view_ref (hr : RelX ρ own c s a w) {F : Nat → Prop} {ρ' : Nat → Value} {id off : Nat} (hF : Given F own (.ref id off)) {f : PV → PV} (hf : ∀ p v, VR ρ own w p v → VR ρ' F w (f p) v) {v : Value} (hv : VR ρ own w (.ref id off) v) :
    VR ρ' F w (match look id s.sto with | some (.box _ cs) => .cref (cs.map f) off | _ => .undef) v := by
  split
  · rename_i t cs hl
    obtain ⟨g, vs, e, hh, hvs⟩ := hr.sto id _ hl
    rw [VR] at hv
    obtain ⟨g', e', rfl⟩ := hv
    rw [e] at e'
    cases e'
    have hg : g < w.heap.size := hr.lo g (hr.owned id _ g hl (in_blk (by rw [e]; rfl))).1
    rw [VR]
    refine ⟨g, vs, t, rfl, ?_, hg, hh, viewList (fun p v _ => hf p v) hvs⟩
    rcases hF.free with k | k
    · exact k g
    · cases k
  · rw [VR]
    trivial
theorem viewIn_sound (hr : RelX ρ own c s a w) {F : Nat → Prop} {ρ' : Nat → Value} {p : PV} (hF : Given F own p) {v : Value} (hv : VR ρ own w p v) : VR ρ' F w (viewIn s p) v := by
  unfold viewIn
  split
  · exact view_own hr hF hv
  · exact view_deep hr hF hv
  · rename_i id off
    rcases hF.free with k | k
    · exact view_ref hr hF (fun p v => viewIn0_sound hr ⟨hF.sub, .inl k⟩) hv
    · cases k
  · split
    · rw [VR]
      trivial
    · rename_i hp
      exact hv.free hF.sub (by simpa using hp)
theorem free_mem : ∀ {ps : List PV} {p : PV}, holdsOwnL ps = false → p ∈ ps → holdsOwn p = false
  | q :: ps, p, h, hm => by
    rw [holdsOwnL, Bool.or_eq_false_iff] at h
    rcases List.mem_cons.1 hm with rfl | k
    · exact h.1
    · exact free_mem h.2 k
theorem Given.part {F : Nat → Prop} {p q : PV} (h : Given F own p) (hq : holdsOwn p = false → holdsOwn q = false) : Given F own q := ⟨h.sub, h.free.imp id hq⟩
theorem viewCell_sound (hr : RelX ρ own c s a w) {F : Nat → Prop} {ρ' : Nat → Value} {p : PV} (hF : Given F own p) {v : Value} (hv : VR ρ own w p v) : VR ρ' F w (viewCell s p) v := by
  cases p with
  | own id => exact view_own hr hF hv
  | deep id => exact view_deep hr hF hv
  | delem id i =>
    rw [viewCell, VR]
    trivial
  | sub id i =>
    rw [viewCell, VR]
    trivial
  | ref id off =>
    rcases hF.free with k | k
    · exact view_ref hr hF (fun p v => viewIn_sound hr ⟨hF.sub, .inl k⟩) hv
    · cases k
  | oelem i z n o =>
    rw [viewCell, VR]
    trivial
  | cref cs o =>
    rw [viewCell]
    split
    · rw [VR]
      trivial
    · rename_i hp
      exact hv.free hF.sub (by rw [holdsOwn]; simpa using hp)
  | func f cs =>
    rw [viewCell]
    rw [VR] at hv ⊢
    obtain ⟨vs, e, hv⟩ := hv
    exact ⟨vs, e, viewList (fun p v hp => viewIn_sound hr (hF.part fun k => free_mem (by rw [holdsOwn] at k; exact k) hp)) hv⟩
  | agg cs =>
    rw [viewCell, VR]
    trivial
  | tuple cs =>
    rw [viewCell, VR]
    trivial
  | _ => exact hv.free hF.sub rfl
theorem viewArg_sound (hr : RelX ρ own c s a w) {F : Nat → Prop} {ρ' : Nat → Value} {p : PV} (hF : Given F own p) {v : Value} (hv : VR ρ own w p v) : VR ρ' F w (viewArg s p) v := by
  unfold viewArg
  split
  · rename_i cs
    rw [VR] at hv ⊢
    obtain ⟨vs, e, hv⟩ := hv
    exact ⟨vs, e, viewList (fun p v hp => viewCell_sound hr (hF.part fun k => free_mem (by rw [holdsOwn] at k; exact k) hp)) hv⟩
  · exact viewCell_sound hr hF hv
def blksOf (ρ : Nat → Value) (ids : List Nat) : List Nat := ids.flatMap fun id => blks (ρ id)
theorem ownIdsL_append : ∀ cs ds : List PV, ownIdsL (cs ++ ds) = ownIdsL cs ++ ownIdsL ds
  | [], ds => by simp [ownIdsL]
  | p :: cs, ds => by rw [List.cons_append, ownIdsL, ownIdsL, ownIdsL_append cs ds, List.append_assoc]
/-- A block of rows. -/
def RowLike (o : Option Blk) : Prop := (∃ e t l, o = some (.row e t l)) ∨ ∃ e e' t l h, o = some (.deep e e' t l h)
theorem RowLike.some {o : Option Blk} (h : RowLike o) : ∃ b, o = .some b ∧ b.isBox = false := by
  rcases h with ⟨e, t, l, q⟩ | ⟨e, e', t, l, k, q⟩
  · exact ⟨_, q, rfl⟩
  · exact ⟨_, q, rfl⟩
/-- What is read off a result's cells. -/
structure Read (ρ : Nat → Value) (own : Nat → Prop) (w : World) (s : St) (t : Ty) (x : t.den) (cs : List PV) (vs : List Value) (rest : List PV) : Prop where
  ex : ∃ u r ps, vs = u ++ r ∧ cs = ps ++ rest ∧ ResR own w (blksOf ρ (ownIdsL ps)) t x u ∧ VRs ρ own w rest r ∧ ∀ id, id ∈ ownIdsL ps → RowLike (look id s.sto)
theorem uncells_free : ∀ {t : Ty} {cs : List PV} {x : t.den} {rest : List PV}, uncells t cs = some (x, rest) → ∃ ps, cs = ps ++ rest ∧ ownIdsL ps = []
  | .int _, cs, x, rest, h => by
    rw [uncells] at h
    exact ⟨[_], by rw [unInt_sound h]; rfl, rfl⟩
  | .bool, cs, x, rest, h => by
    rw [uncells] at h
    exact ⟨[_], by rw [unBool_sound h]; rfl, rfl⟩
  | .str, cs, x, rest, h => by
    rw [uncells] at h
    exact ⟨[_], by rw [unStr_sound h]; rfl, rfl⟩
  | .list _ _ _, cs, x, rest, h => by
    rw [uncells] at h
    unfold unRow at h
    split at h
    · cases h
      exact ⟨[_], rfl, rfl⟩
    · cases h
      exact ⟨[_], rfl, rfl⟩
    · split at h
      · cases h
        exact ⟨[_], rfl, rfl⟩
      · cases h
    · cases h
  | .prod a b, cs, x, rest, h => by
    rw [uncells] at h
    split at h
    · rename_i y l' hy
      split at h
      · rename_i z l'' hz
        cases h
        obtain ⟨p1, rfl, e1⟩ := uncells_free hy
        obtain ⟨p2, rfl, e2⟩ := uncells_free hz
        exact ⟨p1 ++ p2, by rw [List.append_assoc], by rw [ownIdsL_append, e1, e2]; rfl⟩
      · cases h
    · cases h
  | .unit, cs, x, rest, h => by
    rw [uncells] at h
    cases h
    exact ⟨[], rfl, rfl⟩
  | .tag q ag t, cs, x, rest, h => by
    rw [uncells] at h
    obtain ⟨ps, hps, hq⟩ := unTag_sound h
    clear h
    subst hps
    refine ⟨[.func (1000000 + q) ps], rfl, ?_⟩
    rcases hq with ⟨_, cs', rfl, h⟩ | ⟨_, h⟩
    · obtain ⟨p1, e, e1⟩ := uncells_free h
      rw [List.append_nil] at e
      subst e
      simp [ownIdsL, ownIds, e1]
    · obtain ⟨p1, e, e1⟩ := uncells_free h
      rw [List.append_nil] at e
      subst e
      simp [ownIdsL, ownIds, e1]
theorem unres_sound (hr : RelX ρ own c s a w) : ∀ {t : Ty} {cs : List PV} {vs : List Value} {x : t.den} {rest : List PV}, unres s.sto t cs = some (x, rest) → VRs ρ own w cs vs → Read ρ own w s t x cs vs rest
  | .int k, cs, vs, x, rest, h, hv => by
    rw [unres] at h
    have e := unInt_sound h
    subst e
    rw [VRs] at hv
    obtain ⟨v, r, rfl, h1, h2⟩ := hv
    rw [VR] at h1
    exact ⟨[v], r, [.int k x], rfl, rfl, by rw [ResR.eq_def]; exact ⟨rfl, by rw [h1]⟩, h2, fun id hi => by simp [ownIdsL, ownIds] at hi⟩
  | .bool, cs, vs, x, rest, h, hv => by
    rw [unres] at h
    have e := unBool_sound h
    subst e
    rw [VRs] at hv
    obtain ⟨v, r, rfl, h1, h2⟩ := hv
    rw [VR] at h1
    exact ⟨[v], r, [.bool x], rfl, rfl, by rw [ResR.eq_def]; exact ⟨rfl, by rw [h1]⟩, h2, fun id hi => by simp [ownIdsL, ownIds] at hi⟩
  | .str, cs, vs, x, rest, h, hv => by
    rw [unres] at h
    have e := unStr_sound h
    subst e
    rw [VRs] at hv
    obtain ⟨v, r, rfl, h1, h2⟩ := hv
    rw [VR] at h1
    exact ⟨[v], r, [.str x], rfl, rfl, by rw [ResR.eq_def]; exact ⟨rfl, by rw [h1]⟩, h2, fun id hi => by simp [ownIdsL, ownIds] at hi⟩
  | .list false e t, cs, vs, x, rest, h, hv => by
    rw [unres] at h
    have hno : ∃ p, cs = p :: rest ∧ ownIds p = [] := by
      unfold unRow at h
      split at h
      · cases h; exact ⟨_, rfl, rfl⟩
      · cases h; exact ⟨_, rfl, rfl⟩
      · split at h
        · cases h; exact ⟨_, rfl, rfl⟩
        · cases h
      · cases h
    obtain ⟨p, rfl, hp⟩ := unRow_sound (ρ := ρ) (own := own) (w := w) (o := false) h
    obtain ⟨p', e', hp'⟩ := hno
    cases e'
    rw [VRs] at hv
    obtain ⟨v, r, rfl, h1, h2⟩ := hv
    have e0 : ownIdsL [p] = [] := by simp [ownIdsL, hp']
    exact ⟨[v], r, [p], rfl, rfl, by rw [ResR.eq_def, e0]; exact ⟨rfl, hp v h1⟩, h2, fun id hi => by rw [e0] at hi; cases hi⟩
  | .list true e t, cs, vs, x, rest, h, hv => by
    rw [unres] at h
    unfold unOwn at h
    split at h
    · cases h
      rw [VRs] at hv
      obtain ⟨v, r, rfl, h1, h2⟩ := hv
      rw [VR] at h1
      subst h1
      refine ⟨[_], r, [.nils], rfl, rfl, ?_, h2, fun id hi => by simp [ownIdsL, ownIds] at hi⟩
      rw [ResR.eq_def]
      rcases rowB_cases e t ([] : List t.den) with ⟨e1, e2⟩ | ⟨e', t', rfl⟩
      · exact ⟨_, .slice none 0 0, rfl, by rw [e2, VR]; exact ⟨rfl, rfl⟩, by rw [e1]; exact .inl ⟨⟨none, rfl⟩, rfl⟩, rfl⟩
      · have hd : DeepR own w (.agg (.slice none 0 0 :: []).toArray) e e' t' ([] : List (List t'.den)) none := ⟨.slice none 0 0, [], rfl, rfl, List.nodup_nil, .inl ⟨⟨none, rfl⟩, rfl⟩, fun i x u hx _ => by simp at hx⟩
        have hb : BR (fun _ => .agg (.slice none 0 0 :: []).toArray) own w 0 (rowB e (.list true e' t') []) := hd
        exact ⟨_, .agg (.slice none 0 0 :: []).toArray, rfl, (by show VR _ _ _ (.deep 0) _; rw [VR]; exact ⟨[], rfl⟩), hb, rfl⟩
    · rename_i id rs
      split at h
      · rename_i e' t' l hl
        split at h
        · cases h
        rename_i hnd
        split at h
        · rename_i l' hs
          cases h
          obtain ⟨rfl, rfl, q⟩ := sameRow_eq hs
          have := eq_of_heq q
          subst this
          rw [VRs] at hv
          obtain ⟨v, r, rfl, h1, h2⟩ := hv
          rw [VR] at h1
          obtain ⟨rfl, hag⟩ := h1
          rcases rowB_cases e' t' l with ⟨e1, e2⟩ | ⟨e'', t'', rfl⟩
          · exact ⟨[_], r, [.own id], rfl, rfl, by rw [ResR.eq_def]; exact ⟨_, _, rfl, by rw [e2, VR]; exact ⟨rfl, hag⟩, by rw [e1]; exact hr.sto id _ hl, by simp [ownIdsL, ownIds, blksOf]⟩, h2, fun i hi => by simp [ownIdsL, ownIds] at hi; subst hi; exact .inl ⟨_, _, _, hl⟩⟩
          · exact absurd rfl hnd
        · cases h
      · cases h
    · rename_i id rs
      split at h
      · rename_i e1 e' t' l hl
        split at h
        · rename_i l' hs
          cases h
          obtain ⟨rfl, rfl, q⟩ := sameRow_eq hs
          have := eq_of_heq q
          subst this
          rw [VRs] at hv
          obtain ⟨v, r, rfl, h1, h2⟩ := hv
          exact ⟨[_], r, [.deep id], rfl, rfl, by rw [ResR.eq_def]; exact ⟨_, ρ id, rfl, VR_rowP (b := id) (t := .list true e' t') h1 rfl, hr.sto id _ hl, by simp [ownIdsL, ownIds, blksOf]⟩, h2, fun i hi => by simp [ownIdsL, ownIds] at hi; subst hi; exact .inr ⟨_, _, _, _, _, hl⟩⟩
        · cases h
      · cases h
    · cases h
  | .prod t u, cs, vs, x, rest, h, hv => by
    rw [unres] at h
    split at h
    · rename_i y l' hy
      split at h
      · rename_i z l'' hz
        cases h
        obtain ⟨u0, r0, p0, rfl, rfl, h1, h2, h3⟩ := (unres_sound hr hy hv).ex
        obtain ⟨u1, r1, p1, rfl, rfl, h4, h5, h6⟩ := (unres_sound hr hz h2).ex
        refine ⟨u0 ++ u1, r1, p0 ++ p1, by simp, by simp, ?_, h5, fun id hi => ?_⟩
        · rw [ResR.eq_def]
          refine ⟨_, _, u0, u1, ?_, rfl, h1, h4⟩
          rw [ownIdsL_append, blksOf, List.flatMap_append]
          rfl
        · rw [ownIdsL_append] at hi
          rcases List.mem_append.1 hi with q | q
          · exact h3 id q
          · exact h6 id q
      · cases h
    · cases h
  | .unit, cs, vs, x, rest, h, hv => by
    rw [unres] at h
    cases h
    exact ⟨[], vs, [], rfl, rfl, by rw [ResR.eq_def]; exact ⟨rfl, rfl⟩, hv, fun id hi => by simp [ownIdsL] at hi⟩
  | .tag q ag t, cs, vs, x, rest, h, hv => by
    rw [unres] at h
    obtain ⟨ps, e, hps⟩ := uncells_free (t := .tag q ag t) h
    subst e
    obtain ⟨u, r, e, h1, h2⟩ := uncells_sound (t := .tag q ag t) h hv
    subst e
    refine ⟨u, r, ps, rfl, rfl, ?_, h2, fun id hi => by rw [hps] at hi; cases hi⟩
    rw [ResR.eq_def, hps]
    exact ⟨rfl, h1⟩
theorem blks_nodup (hr : RelX ρ own c s a w) : ∀ {ids : List Nat}, ids.Nodup → (∀ id, id ∈ ids → gst id = false) → (∀ id, id ∈ ids → RowLike (look id s.sto)) → (blksOf ρ ids).Nodup ∧ ∀ g, g ∈ blksOf ρ ids → own g ∧ (c.w0.heap.size ≤ g ∨ c.L g)
  | [], _, _, _ => ⟨List.nodup_nil, fun g h => by simp [blksOf] at h⟩
  | id :: ids, hn, hgs, hl => by
    rw [List.nodup_cons] at hn
    obtain ⟨h1, h2⟩ := blks_nodup hr hn.2 (fun i hi => hgs i (List.mem_cons_of_mem _ hi)) (fun i hi => hl i (List.mem_cons_of_mem _ hi))
    have hlk0 := hl id List.mem_cons_self
    obtain ⟨bk, hlk, _⟩ := hlk0.some
    have hcons : blksOf ρ (id :: ids) = blks (ρ id) ++ blksOf ρ ids := by simp [blksOf]
    have hin : ∀ g, g ∈ blksOf ρ ids → ∃ i, i ∈ ids ∧ g ∈ blks (ρ i) := by
      intro g hg
      simp only [blksOf, List.mem_flatMap] at hg
      obtain ⟨i, hi, hg⟩ := hg
      exact ⟨i, hi, hg⟩
    rw [hcons]
    have hnd : (blks (ρ id)).Nodup := by
      rcases hlk0 with ⟨e, t, l, q⟩ | ⟨e, e', t, l, k, q⟩
      · rcases hr.sto id _ q with ⟨⟨A, e1⟩, _⟩ | ⟨g, k, vs, e1, _⟩
        · rw [e1, blks_slice0]
          exact List.nodup_nil
        · rw [e1, blks_slice]
          simp
      · obtain ⟨A, us, _, _, h2, _⟩ := hr.sto id _ q
        exact h2
    refine ⟨List.nodup_append.2 ⟨hnd, h1, fun g hg g' hg' e => ?_⟩, fun q hq => ?_⟩
    · subst e
      obtain ⟨i, hi, hig⟩ := hin g hg'
      obtain ⟨bk', hlk', _⟩ := (hl i (List.mem_cons_of_mem _ hi)).some
      have := hr.apart id i _ _ g hlk hlk' hg hig
      subst this
      exact hn.1 hi
    · rcases List.mem_append.1 hq with k | k
      · exact hr.mine (.inl (hgs id List.mem_cons_self)) hlk k
      · exact h2 q k
end
theorem VRs.nth {ρ : Nat → Value} {own : Nat → Prop} {w : World} : ∀ {ps : List PV} {vs : List Value}, VRs ρ own w ps vs → ∀ t, VR ρ own w (nth ps t) (vs.getD t undef)
  | [], _, h, t => by
    rw [Pv.nth] <;> first | (rw [VR]; trivial) | skip
  | p :: ps, _, h, 0 => by
    rw [VRs] at h
    obtain ⟨v, r, rfl, h1, _⟩ := h
    exact h1
  | p :: ps, _, h, t + 1 => by
    rw [VRs] at h
    obtain ⟨v, r, rfl, _, h2⟩ := h
    exact h2.nth t
theorem nodupN_sound : ∀ {l : List Nat}, nodupN l = true → l.Nodup
  | [], _ => List.nodup_nil
  | i :: l, h => by
    rw [nodupN, Bool.and_eq_true] at h
    refine List.nodup_cons.2 ⟨fun hm => ?_, nodupN_sound h.2⟩
    have : ∀ {l : List Nat}, i ∈ l → memN i l = true := by
      intro l hm
      induction l with
      | nil => cases hm
      | cons j l ih =>
        rw [memN, Bool.or_eq_true]
        rcases List.mem_cons.1 hm with rfl | q
        · exact .inl (by simp)
        · exact .inr (ih q)
    rw [this hm] at h
    simp at h

/-! ### bits -/
theorem nodupO_sound {l : List Nat} (h : nodupO l = true) : l.Nodup ∧ ∀ i, i ∈ l → gst i = false := by
  unfold nodupO at h
  rw [Bool.and_eq_true] at h
  exact ⟨nodupN_sound h.1, fun i hi => by simpa using List.all_eq_true.1 h.2 i hi⟩
end Go.Proofs.Ytbaekdcacmoniaa.Pv
