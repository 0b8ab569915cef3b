/- Loads, stores, addresses, parts: the model does what the pure machine says. -/
import Derived.Test.YtbaekdcacmoniaaPv4
namespace Go.Proofs.Ytbaekdcacmoniaa.Pv
open Go Go.RowKit

section
variable {ρ : Nat → Value} {own : Nat → Prop} {W0 : World} {c : Cx W0} {w : World} {s : St} {a : Act} {P : Program}
theorem RdC.one {own : Nat → Prop} {w : World} : ∀ {t : Ty} {x : t.den} {u : List Value}, RdC own w t x u → ∀ v ∈ u, v.oneCell' = true
  | .int _, _, _, h => by rw [RdC.eq_def] at h; rw [h]; simp [Value.oneCell']
  | .bool, _, _, h => by rw [RdC.eq_def] at h; rw [h]; simp [Value.oneCell']
  | .str, _, _, h => by rw [RdC.eq_def] at h; rw [h]; simp [Value.oneCell']
  | .list _ _ _, _, _, h => by
    rw [RdC.eq_def] at h
    obtain ⟨A, c, rfl, _⟩ := h
    simp [Value.oneCell']
  | .prod a b, _, _, h => by
    rw [RdC.eq_def] at h
    obtain ⟨c0, c1, rfl, h0, h1⟩ := h
    intro v hv
    rcases List.mem_append.1 hv with q | q
    · exact RdC.one h0 v q
    · exact RdC.one h1 v q
  | .unit, _, _, h => by rw [RdC.eq_def] at h; rw [h]; simp
  | .tag _ _ _, _, _, h => by
    rw [RdC.eq_def] at h
    obtain ⟨u, rfl, _⟩ := h
    simp [funV_cell]
/-- A typed reading's cells, as values of the machine's. -/
theorem VRs_cells : ∀ {t : Ty} {x : t.den} {u : List Value}, RdC own w t x u → VRs ρ own w (cells t x) u
  | .int _, _, _, h => by
    rw [RdC.eq_def] at h
    subst h
    rw [cells, VRs]
    exact ⟨_, _, rfl, by rw [VR], by rw [VRs]⟩
  | .bool, _, _, h => by
    rw [RdC.eq_def] at h
    subst h
    rw [cells, VRs]
    exact ⟨_, _, rfl, by rw [VR], by rw [VRs]⟩
  | .str, _, _, h => by
    rw [RdC.eq_def] at h
    subst h
    rw [cells, VRs]
    exact ⟨_, _, rfl, by rw [VR], by rw [VRs]⟩
  | .list o e t, l, u, h => by
    have h0 := h
    rw [RdC.eq_def] at h
    obtain ⟨A, k, rfl, _⟩ := h
    rw [cells, VRs]
    refine ⟨_, _, rfl, ?_, by rw [VRs]⟩
    rw [VR]
    rw [RdC.eq_def] at h0 ⊢
    exact h0
  | .prod a b, p, u, h => by
    rw [RdC.eq_def] at h
    obtain ⟨c0, c1, rfl, h0, h1⟩ := h
    rw [cells]
    exact VRs.append (VRs_cells h0) (VRs_cells h1)
  | .unit, _, _, h => by
    rw [RdC.eq_def] at h
    subst h
    rw [cells, VRs]
  | .tag q ag t, x, _, h => by
    rw [RdC.eq_def] at h
    obtain ⟨u, rfl, h⟩ := h
    rw [cells, VRs]
    refine ⟨_, _, rfl, ?_, by rw [VRs]⟩
    rw [VR]
    refine ⟨_, rfl, ?_⟩
    cases ag with
    | true =>
      rw [if_pos rfl, if_pos rfl, VRs]
      exact ⟨_, _, rfl, by rw [VR]; exact ⟨_, rfl, VRs_cells h⟩, by rw [VRs]⟩
    | false =>
      rw [if_neg (by nofun), if_neg (by nofun)]
      exact VRs_cells h
theorem RdC_list_nil {own : Nat → Prop} {w : World} {A : Option Addr} {o : Bool} {e : TypeId} {t : Ty} : RdC own w (.list o e t) [] [.slice A 0 0] := by
  rw [RdC.eq_def]
  exact ⟨A, 0, rfl, Nat.le_refl _, by simp [maxLen], fun _ => rfl, fun i x h => by simp at h⟩
theorem sameRow_eq {e e' : TypeId} {t t' : Ty} {l : List t'.den} {l' : List t.den} (h : sameRow e t e' t' l = some l') : e' = e ∧ t' = t ∧ HEq l l' := by
  unfold sameRow at h
  split at h
  · rename_i he
    split at h
    · rename_i ht
      subst ht
      exact ⟨he, rfl, heq_of_eq (Option.some.inj h)⟩
    · cases h
  · cases h
theorem unInt_sound {k : IntKind} {cs : List PV} {y : Int} {rest : List PV} (h : unInt k cs = some (y, rest)) : cs = .int k y :: rest := by
  unfold unInt at h
  split at h
  · split at h
    · rename_i q
      cases h
      rw [q]
    · cases h
  · cases h
theorem unBool_sound {cs : List PV} {y : Bool} {rest : List PV} (h : unBool cs = some (y, rest)) : cs = .bool y :: rest := by
  unfold unBool at h
  split at h
  · cases h
    rfl
  · cases h
theorem unStr_sound {cs : List PV} {y : ByteArray} {rest : List PV} (h : unStr cs = some (y, rest)) : cs = .str y :: rest := by
  unfold unStr at h
  split at h
  · cases h
    rfl
  · cases h
theorem VR_row {e : TypeId} {t : Ty} {l : List t.den} {v : Value} (h : VR ρ own w (.row e t l) v) (o : Bool) : RdC own w (.list o e t) l [v] := by
  rw [VR] at h
  rw [RdC.eq_def] at h ⊢
  exact h
theorem unRow_sound {o : Bool} {e : TypeId} {t : Ty} {cs : List PV} {y : List t.den} {rest : List PV} (h : unRow e t cs = some (y, rest)) : ∃ p, cs = p :: rest ∧ ∀ v, VR ρ own w p v → RdC own w (.list o e t) y [v] := by
  unfold unRow at h
  split at h
  · cases h
    exact ⟨_, rfl, fun v hv => by rw [VR] at hv; subst hv; exact RdC_list_nil⟩
  · cases h
    exact ⟨_, rfl, fun v hv => by rw [VR] at hv; obtain ⟨A, rfl⟩ := hv; exact RdC_list_nil⟩
  · split at h
    · rename_i hs
      cases h
      obtain ⟨rfl, rfl, rfl⟩ := sameRow_eq hs
      exact ⟨_, rfl, fun v hv => VR_row hv o⟩
    · cases h
  · cases h
theorem unTag_sound {α : Type} {q : TypeId} {ag : Bool} {g : List PV → Option (α × List PV)} {cs : List PV} {y : α} {rest : List PV} (h : unTag q ag g cs = some (y, rest)) : ∃ ps, cs = .func (1000000 + q) ps :: rest ∧ ((ag = true ∧ ∃ cs', ps = [.agg cs'] ∧ g cs' = some (y, [])) ∨ (ag = false ∧ g ps = some (y, []))) := by
  unfold unTag at h
  split at h
  case h_2 => cases h
  rename_i f ps r
  split at h
  case isFalse => cases h
  rename_i hf
  have hf' : f = 1000000 + q := by simpa using hf
  subst hf'
  split at h
  · rename_i hag
    split at h
    case h_2 => cases h
    rename_i cs'
    split at h
    case h_2 => cases h
    rename_i x hx
    cases h
    exact ⟨_, rfl, .inl ⟨hag, cs', rfl, hx⟩⟩
  · rename_i hag
    split at h
    case h_2 => cases h
    rename_i x hx
    cases h
    exact ⟨_, rfl, .inr ⟨by simpa using hag, hx⟩⟩
/-- Cells read as a typed value. -/
theorem uncells_sound : ∀ {t : Ty} {cs : List PV} {vs : List Value} {y : t.den} {rest : List PV}, uncells t cs = some (y, rest) → VRs ρ own w cs vs →
    ∃ u r, vs = u ++ r ∧ RdC own w t y u ∧ VRs ρ own w rest r
  | .int k, cs, vs, y, rest, h, hv => by
    rw [uncells] at h
    rw [unInt_sound h, VRs] at hv
    obtain ⟨v, r, rfl, h1, h2⟩ := hv
    exact ⟨[v], r, rfl, by rw [RdC.eq_def]; rw [VR] at h1; rw [h1], h2⟩
  | .bool, cs, vs, y, rest, h, hv => by
    rw [uncells] at h
    rw [unBool_sound h, VRs] at hv
    obtain ⟨v, r, rfl, h1, h2⟩ := hv
    exact ⟨[v], r, rfl, by rw [RdC.eq_def]; rw [VR] at h1; rw [h1], h2⟩
  | .str, cs, vs, y, rest, h, hv => by
    rw [uncells] at h
    rw [unStr_sound h, VRs] at hv
    obtain ⟨v, r, rfl, h1, h2⟩ := hv
    exact ⟨[v], r, rfl, by rw [RdC.eq_def]; rw [VR] at h1; rw [h1], h2⟩
  | .list o e t, cs, vs, y, rest, h, hv => by
    rw [uncells] at h
    obtain ⟨p, rfl, hp⟩ := unRow_sound (o := o) h
    rw [VRs] at hv
    obtain ⟨v, r, rfl, h1, h2⟩ := hv
    exact ⟨[v], r, rfl, hp v h1, h2⟩
  | .prod a b, cs, vs, y, rest, h, hv => by
    rw [uncells] at h
    split at h
    · rename_i x l' hx
      split at h
      · rename_i y' l'' hy
        cases h
        obtain ⟨u, r, rfl, h1, h2⟩ := uncells_sound hx hv
        obtain ⟨u', r', rfl, h3, h4⟩ := uncells_sound hy h2
        refine ⟨u ++ u', r', by simp, ?_, h4⟩
        rw [RdC.eq_def]
        exact ⟨u, u', rfl, h1, h3⟩
      · cases h
    · cases h
  | .unit, cs, vs, y, rest, h, hv => by
    rw [uncells] at h
    cases h
    exact ⟨[], vs, rfl, by rw [RdC.eq_def], hv⟩
  | .tag q ag t, cs, vs, y, rest, h, hv => by
    rw [uncells] at h
    obtain ⟨ps, hps, hq⟩ := unTag_sound h
    clear h
    subst hps
    rw [VRs] at hv
    obtain ⟨v, r, rfl, h1, h2⟩ := hv
    rw [VR] at h1
    obtain ⟨us, e', h1⟩ := h1
    refine ⟨[v], r, rfl, ?_, h2⟩
    rw [RdC.eq_def]
    rcases hq with ⟨rfl, cs', rfl, h⟩ | ⟨rfl, h⟩
    · rw [VRs] at h1
      obtain ⟨u0, r0, e0, h3, h4⟩ := h1
      rw [VRs] at h4
      subst h4
      rw [VR] at h3
      obtain ⟨arr, rfl, h3⟩ := h3
      obtain ⟨u, r1, e1, h5, h6⟩ := uncells_sound h h3
      rw [VRs] at h6
      subst h6
      rw [List.append_nil] at e1
      refine ⟨u, ?_, h5⟩
      obtain ⟨l⟩ := us
      have e0' : l = [.agg arr] := e0
      subst e0'
      rw [e', if_pos rfl, ← e1]
    · obtain ⟨u, r1, e1, h5, h6⟩ := uncells_sound h h1
      rw [VRs] at h6
      subst h6
      rw [List.append_nil] at e1
      refine ⟨u, ?_, h5⟩
      rw [e', if_neg (by nofun), ← e1]
/-! ### loads -/
theorem run_loadVar_of {t : TypeId} {cs : List PV} {off : Nat} {p : PV} (h : partT P t cs off = some p) {u : List Value} (hv : VRs ρ own w cs u) {A : Addr} (hA : ∀ (j : Nat) (v : Value), u[j]? = some v → w.cell? (A.add j) = some v) :
    ∃ v, (loadVar t (A.add off)).run P w = .ok v w ∧ VR ρ own w p v := by
  unfold partT at h
  split at h
  · rename_i ha
    split at h
    · rename_i n hn
      split at h
      · rename_i hl
        cases h
        have hlen : ((u.drop off).take n).length = n := by
          have := hv.len
          simp
          omega
        have hr := run_loadCells_list (P := P) w (A.add off) ((u.drop off).take n) (fun j v hj => by
          rw [List.getElem?_take] at hj
          split at hj
          · rw [List.getElem?_drop] at hj
            rw [Addr.add_add]
            exact hA _ _ hj
          · cases hj)
        rw [hlen] at hr
        refine ⟨.agg ((u.drop off).take n).toArray, by simp [loadVar, run_isAgg_of ha, run_sizeOf_of hn, hr], ?_⟩
        rw [VR]
        exact ⟨_, rfl, by simpa using (hv.drop off).take n⟩
      · cases h
    · cases h
  · rename_i ha
    obtain ⟨v, hv1, hv2⟩ := hv.get off h
    exact ⟨v, by simp [loadVar, run_isAgg_of ha, hA _ _ hv1], hv2⟩
  · cases h
theorem cell_of_block {g : Nat} {vs : Array Value} {t : TypeId} {fr : Nat × Nat} (h : w.heap[g]? = some (.cells vs t fr)) (o : Nat) : w.cell? ⟨g, o, none⟩ = vs[o]? := by
  simp [World.cell?, h]
/-- What a row of the call's own holds at i. -/
theorem BR.elem {id : Nat} {e : TypeId} {t : Ty} {l : List t.den} (h : BR ρ own w id (.row e t l)) {g n k : Nat} (hr : ρ id = .slice (some ⟨g, 0, none⟩) n k) {i : Nat} (hi : i < n) :
    ∃ vs : Array Value, n = l.length ∧ w.heap[g]? = some (.cells vs e (0, 0)) ∧ n * t.sz ≤ vs.size ∧ k ≠ 0 ∧ ((vs.toList.drop (i * t.sz)).take t.sz).length = t.sz ∧
      RdC own w t (l.getD i t.dflt) ((vs.toList.drop (i * t.sz)).take t.sz) := by
  rcases h with ⟨⟨A, e1⟩, e2⟩ | ⟨g', c, vs, e1, h1, h2, hh, h3, h5⟩
  · rw [hr] at e1
    cases e1
    omega
  · rw [hr] at e1
    cases e1
    have hm : l.length * t.sz ≤ (c + 1) * t.sz := Nat.mul_le_mul_right _ h1
    have hm' : (i + 1) * t.sz ≤ l.length * t.sz := Nat.mul_le_mul_right _ hi
    rw [Nat.add_mul, Nat.one_mul] at hm'
    refine ⟨vs, rfl, hh, by omega, by omega, ?_, ?_⟩
    · simp
      omega
    · have := h5 i (l.getD i t.dflt) (by rw [List.getD_eq_getElem?_getD, List.getElem?_eq_getElem hi]; simp)
      exact this
theorem run_load {t : TypeId} {x : PV} {p : PV} (h : evLoad P s t x = some p) (hr : RelX ρ own c s a w) {v : Value} (hv : VR ρ own w x v) : ∃ u, (Instr.loadAt t v).run P w = .ok u w ∧ VR ρ own w p u := by
  unfold evLoad at h
  split at h
  · rename_i id off
    split at h
    · rename_i t0 cs hl
      obtain ⟨g, vs, e, hh, hvs⟩ := hr.sto id _ hl
      rw [VR] at hv
      obtain ⟨g', e', rfl⟩ := hv
      rw [e] at e'
      cases e'
      have := run_loadVar_of h hvs (A := ⟨g, 0, none⟩) (fun j v hj => by
        rw [Addr.add_lit, cell_of_block hh]
        simpa using hj)
      rw [Addr.add_lit, Nat.zero_add] at this
      obtain ⟨u, h1, h2⟩ := this
      exact ⟨u, by simp [Instr.loadAt, Instr.sureAddr, h1], h2⟩
    · cases h
  · rw [VR] at hv
    obtain ⟨g, vs, t0, rfl, _, _, hh, hvs⟩ := hv
    have := run_loadVar_of h hvs (A := ⟨g, 0, none⟩) (fun j v hj => by
      rw [Addr.add_lit, cell_of_block hh]
      simpa using hj)
    rw [Addr.add_lit, Nat.zero_add] at this
    obtain ⟨u, h1, h2⟩ := this
    exact ⟨u, by simp [Instr.loadAt, Instr.sureAddr, h1], h2⟩
  · rw [VR] at hv
    obtain ⟨A, u, rfl, _, _, hs, hc⟩ := hv
    obtain ⟨v, h1, h2⟩ := run_loadVar_of h (VRs_cells hs) (fun j y hj => hc j y hj)
    exact ⟨v, by simp [Instr.loadAt, Instr.sureAddr, h1], h2⟩
  · rename_i id z i off
    split at h
    · rename_i e τ l hl
      split at h
      · rename_i hz
        have hz' : z = τ.sz := by simpa using hz
        subst hz'
        rw [VR] at hv
        obtain ⟨g, n, k, e1, hi, rfl⟩ := hv
        obtain ⟨vs, _, hh, hn, _, hlen, hs⟩ := (hr.sto id _ hl).elem e1 hi
        obtain ⟨v, h1, h2⟩ := run_loadVar_of h (VRs_cells hs) (A := ⟨g, i.toNat * τ.sz, none⟩) (fun j y hj => by
          rw [Addr.add_lit, cell_of_block hh]
          rw [List.getElem?_take] at hj
          split at hj
          · rw [List.getElem?_drop] at hj
            simpa using hj
          · cases hj)
        rw [Addr.add_lit] at h1
        exact ⟨v, by simp [Instr.loadAt, Instr.sureAddr, h1], h2⟩
      · cases h
    · cases h
  · rename_i id i
    split at h
    · rename_i e e' τ l hl
      split at h
      · rename_i ha
        cases h
        rw [VR] at hv
        obtain ⟨g, n, k, us0, e1, hi0, hlt, rfl⟩ := hv
        obtain ⟨A0, k', eh⟩ := DeepR.head (hr.sto id _ hl) e1
        cases eh
        obtain ⟨g2, kp, vs, us, u, e2, h1, h2, h3, hh, h4, hu, h5, h6, h7, h8⟩ := (hr.sto id _ hl).parts hlt
        rw [e1] at e2
        obtain ⟨e3, e4⟩ := agg_head e2
        cases e3
        subst e4
        have hcell : w.cell? ⟨g, i.toNat, none⟩ = some u := by
          rw [cell_of_block hh]
          exact h7 _ u hu (by simp)
        refine ⟨u, by simp [Instr.loadAt, Instr.sureAddr, loadVar, run_isAgg_of ha, hcell], ?_⟩
        rw [VR]
        exact ⟨_, us0, e1, hi0, by omega, fun u' hu' _ => by rw [hu] at hu'; exact Option.some.inj hu'⟩
      · cases h
    · cases h
  · cases h
end
end Go.Proofs.Ytbaekdcacmoniaa.Pv
