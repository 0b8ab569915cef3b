/- New blocks, stores, composites. -/
import Derived.Test.YtbaekdcacmoniaaPv8
namespace Go.Proofs.Ytbaekdcacmoniaa.Pv
open Go Go.RowKit

section
variable {R : Type} {r : R} {ρ : Nat → Value} {own : Nat → Prop} {W0 : World} {c : Cx W0} {w w1 : World} {s : St} {a : Act} {P : Program}
theorem rowB_some {o : Option Blk} (h : isRowB o = true) : ∃ b, o = some b ∧ ∀ e e' t l k, b ≠ .deep e e' t l k := by
  cases o with
  | none => cases h
  | some b => cases b <;> first | (cases h; done) | exact ⟨_, rfl, fun _ _ _ _ _ e => by cases e⟩
theorem deepB_some {o : Option Blk} (h : isDeepB o = true) : ∃ e e' t l k, o = some (.deep e e' t l k) := by
  cases o with
  | none => cases h
  | some b => cases b <;> first | (cases h; done) | exact ⟨_, _, _, _, _, rfl⟩
theorem VRs_cellsOf (hr : RelX ρ own c s a w) {p : PV} (hk : known s.sto p = true) {v : Value} (hv : VR ρ own w p v) : VRs ρ own w (cellsOfPV p) v.cells.toList := by
  have one : ∀ p v, VR ρ own w p v → v.cells = #[v] → VRs ρ own w [p] v.cells.toList := fun p v h e => by
    rw [e, VRs]
    exact ⟨v, [], rfl, h, by rw [VRs]⟩
  cases p with
  | undef => cases hk
  | sub id i => cases hk
  | agg cs =>
    rw [VR] at hv
    obtain ⟨vs, rfl, h⟩ := hv
    exact h
  | own id =>
    refine one _ _ hv ?_
    rw [VR] at hv
    obtain ⟨rfl, _⟩ := hv
    unfold known at hk
    obtain ⟨b, hb, hdeep⟩ := rowB_some hk
    have := hr.sto id b hb
    cases b with
    | box t cs =>
      obtain ⟨g, vs, e, _⟩ := this
      rw [e]
      rfl
    | row e t l =>
      rcases this with ⟨⟨A, e1⟩, _⟩ | ⟨g, k, vs, e1, _⟩ <;> (rw [e1]; rfl)
    | map k v l =>
      obtain ⟨g, es, cl, e1, _⟩ := this
      rw [e1]
      rfl
    | deep e e' t l o => exact absurd rfl (hdeep _ _ _ _ _)
  | deep id =>
    refine one _ _ hv ?_
    rw [VR] at hv
    obtain ⟨us, e1⟩ := hv
    unfold known at hk
    obtain ⟨e, e', t, l, k, hb⟩ := deepB_some hk
    obtain ⟨A0, k, rfl⟩ := DeepR.head (hr.sto id _ hb) e1
    rfl
  | delem id i =>
    refine one _ _ hv ?_
    rw [VR] at hv
    obtain ⟨g, n, c, us, _, _, _, rfl⟩ := hv
    rfl
  | row e t l =>
    refine one _ _ hv ?_
    rw [VR] at hv
    obtain ⟨A, k, rfl, _⟩ := RdC_list hv
    rfl
  | zrow =>
    refine one _ _ hv ?_
    rw [VR] at hv
    obtain ⟨A, k, rfl⟩ := hv
    rfl
  | empt =>
    refine one _ _ hv ?_
    rw [VR] at hv
    obtain ⟨A, rfl⟩ := hv
    rfl
  | ref id off =>
    refine one _ _ hv ?_
    rw [VR] at hv
    obtain ⟨g, _, rfl⟩ := hv
    rfl
  | elem t x off =>
    refine one _ _ hv ?_
    rw [VR] at hv
    obtain ⟨b, u, rfl, _⟩ := hv
    rfl
  | oelem id z i off =>
    refine one _ _ hv ?_
    rw [VR] at hv
    obtain ⟨g, n, k, _, _, rfl⟩ := hv
    rfl
  | cref cs off =>
    refine one _ _ hv ?_
    rw [VR] at hv
    obtain ⟨g, vs, t, rfl, _⟩ := hv
    rfl
  | func f cs =>
    refine one _ _ hv ?_
    rw [VR] at hv
    obtain ⟨vs, rfl, _⟩ := hv
    unfold funV
    split
    · rfl
    · split <;> rfl
  | tuple cs =>
    refine one _ _ hv ?_
    rw [VR] at hv
    obtain ⟨vs, rfl, _⟩ := hv
    rfl
  | int k n =>
    refine one _ _ hv ?_
    rw [VR] at hv
    subst hv
    rfl
  | bool b =>
    refine one _ _ hv ?_
    rw [VR] at hv
    subst hv
    rfl
  | str b =>
    refine one _ _ hv ?_
    rw [VR] at hv
    subst hv
    rfl
  | nils =>
    refine one _ _ hv ?_
    rw [VR] at hv
    subst hv
    rfl
  | nilp =>
    refine one _ _ hv ?_
    rw [VR] at hv
    subst hv
    rfl
  | nilf =>
    refine one _ _ hv ?_
    rw [VR] at hv
    subst hv
    rfl
/-- A value that is solid is one cell. -/
theorem solid_one (hr : RelX ρ own c s a w) {p : PV} (hk : solid s.sto p = true) {v : Value} (hv : VR ρ own w p v) : v.oneCell' = true := by
  cases p with
  | undef => cases hk
  | agg cs => cases hk
  | tuple cs => cases hk
  | sub id i => cases hk
  | own id =>
    rw [VR] at hv
    obtain ⟨rfl, _⟩ := hv
    unfold solid at hk
    obtain ⟨b, hb, hdeep⟩ := rowB_some hk
    have := hr.sto id b hb
    cases b with
    | box t cs =>
      obtain ⟨g, vs, e, _⟩ := this
      rw [e]
      rfl
    | row e t l =>
      rcases this with ⟨⟨A, e1⟩, _⟩ | ⟨g, k, vs, e1, _⟩ <;> (rw [e1]; rfl)
    | map k v l =>
      obtain ⟨g, es, cl, e1, _⟩ := this
      rw [e1]
      rfl
    | deep e e' t l o => exact absurd rfl (hdeep _ _ _ _ _)
  | deep id =>
    rw [VR] at hv
    obtain ⟨us, e1⟩ := hv
    unfold solid at hk
    obtain ⟨e, e', t, l, k, hb⟩ := deepB_some hk
    obtain ⟨A0, k, rfl⟩ := DeepR.head (hr.sto id _ hb) e1
    rfl
  | delem id i =>
    rw [VR] at hv
    obtain ⟨g, n, c, us, _, _, _, rfl⟩ := hv
    rfl
  | row e t l =>
    rw [VR] at hv
    obtain ⟨A, k, rfl, _⟩ := RdC_list hv
    rfl
  | zrow =>
    rw [VR] at hv
    obtain ⟨A, k, rfl⟩ := hv
    rfl
  | empt =>
    rw [VR] at hv
    obtain ⟨A, rfl⟩ := hv
    rfl
  | ref id off =>
    rw [VR] at hv
    obtain ⟨g, _, rfl⟩ := hv
    rfl
  | elem t x off =>
    rw [VR] at hv
    obtain ⟨b, u, rfl, _⟩ := hv
    rfl
  | oelem id z i off =>
    rw [VR] at hv
    obtain ⟨g, n, k, _, _, rfl⟩ := hv
    rfl
  | cref cs off =>
    rw [VR] at hv
    obtain ⟨g, vs, t, rfl, _⟩ := hv
    rfl
  | func f cs =>
    rw [VR] at hv
    obtain ⟨vs, rfl, _⟩ := hv
    unfold funV
    split
    · rfl
    · split <;> rfl
  | int k n =>
    rw [VR] at hv
    subst hv
    rfl
  | bool b =>
    rw [VR] at hv
    subst hv
    rfl
  | str b =>
    rw [VR] at hv
    subst hv
    rfl
  | nils =>
    rw [VR] at hv
    subst hv
    rfl
  | nilp =>
    rw [VR] at hv
    subst hv
    rfl
  | nilf =>
    rw [VR] at hv
    subst hv
    rfl
theorem solids_one (hr : RelX ρ own c s a w) : ∀ {ps : List PV} {vs : List Value}, solids s.sto ps = true → VRs ρ own w ps vs → ∀ v ∈ vs, v.oneCell' = true
  | [], _, _, h => by
    rw [VRs] at h
    subst h
    simp
  | p :: ps, _, hk, h => by
    rw [VRs] at h
    obtain ⟨v, r, rfl, h1, h2⟩ := h
    rw [solids, Bool.and_eq_true] at hk
    intro u hu
    rcases List.mem_cons.1 hu with rfl | q
    · exact solid_one hr hk.1 h1
    · exact solids_one hr hk.2 h2 u q
theorem solid_known {sto : List (Nat × Blk)} {p : PV} (h : solids sto (cellsOfPV p) = true) : known sto p = true := by
  cases p with
  | undef => simp [cellsOfPV, solids, solid] at h
  | own id =>
    simp [cellsOfPV, solids, solid] at h
    simp [known, h]
  | deep id =>
    simp [cellsOfPV, solids, solid] at h
    simp [known, h]
  | sub id i => simp [cellsOfPV, solids, solid] at h
  | _ => rfl
theorem VRs.splice {cs ps : List PV} {vs us : List Value} (h : VRs ρ own w cs vs) (k : VRs ρ own w ps us) (off : Nat) : VRs ρ own w (splice cs off ps) (vs.take off ++ us ++ vs.drop (off + us.length)) := by
  rw [Pv.splice, ← k.len]
  exact ((h.take off).append k).append (h.drop _)
/-- A new block, and the label for it. -/
theorem RelX.fresh (h : RelX ρ own c s a w) (id : Nat) (v : Value) (b : Blk) (hold : ∀ g, g < w.heap.size → w1.heap[g]? = w.heap[g]?) (hsz : w.heap.size < w1.heap.size) (hb : Beneath (fun _ => False) w w1)
    (hv : ∀ g, g ∈ blks v → g = w.heap.size) (hbr : BR (upd ρ id v) (fun g => own g ∨ g = w.heap.size) w1 id b) : RelX (upd ρ id v) (fun g => own g ∨ g = w.heap.size) c (s.add id b) a w1 := by
  refine h.add id v b ⟨Nat.le_of_lt hsz, fun g hg _ => hold g hg⟩ (h.below.trans hb (fun _ _ q => q.elim)) (fun g hg q => q.resolve_right (by omega)) (fun j x g _ hj hg => ?_) (fun g q => ?_) (fun g q => .inl (h.base g q)) (fun j x g _ hj hg e => ?_) (fun g q => ⟨.inr (hv g q), ?_⟩) hbr
  · have := (h.owned j x g hj hg).1
    exact ⟨hold g (h.lo g this), .inl this⟩
  · rcases q with q | q
    · have := h.lo g q
      omega
    · omega
  · have := hv g e
    have := h.lo g (h.owned j x g hj hg).1
    omega
  · rw [hv g q]
    exact h.below.size
theorem alloc_new (w : World) (o : Obj) : (w.alloc o).heap[w.heap.size]? = some o := by
  show (w.heap.push _)[w.heap.size]? = _
  simp
theorem alloc_size (w : World) (o : Obj) : (w.alloc o).heap.size = w.heap.size + 1 := by
  show (w.heap.push _).size = _
  simp
theorem alloc_old (w : World) (o : Obj) (g : Nat) (hg : g < w.heap.size) : (w.alloc o).heap[g]? = w.heap[g]? := by
  show (w.heap.push _)[g]? = _
  rw [Array.getElem?_push, if_neg (by omega)]
theorem Agree.alloc (own : Nat → Prop) (w : World) (o : Obj) : Agree own w (w.alloc o) := ⟨by rw [alloc_size]; omega, fun g hg _ => alloc_old w o g hg⟩
theorem Beneath.alloc (L : Nat → Prop) (w : World) (o : Obj) : Beneath L w (w.alloc o) := ⟨rfl, rfl, rfl, by rw [alloc_size]; omega, fun g hg _ => alloc_old w o g hg⟩
/-- A box of its own. -/
theorem RelX.box (h : RelX ρ own c s a w) (id : Nat) (t : TypeId) {cs : List PV} {vs : Array Value} (hv : VRs ρ own w cs vs.toList) (hid : holdsL id cs = false) :
    RelX (upd ρ id (.pointer (some ⟨w.heap.size, 0, none⟩))) (fun g => own g ∨ g = w.heap.size) c (s.add id (.box t cs)) a (w.alloc (.cells vs t)) := by
  refine h.fresh id _ _ (fun g hg => alloc_old w _ g hg) (by rw [alloc_size]; omega) (Beneath.alloc _ _ _) (fun g q => List.mem_singleton.1 q) ?_
  refine ⟨w.heap.size, vs, upd_same _ _ _, alloc_new w _, VRs.move (Agree.alloc own w _) (fun g hg q => q.resolve_right (by omega)) (fun i hi => upd_ne _ _ (fun e => by rw [e, hid] at hi; cases hi)) hv⟩
theorem VRs_const (z : Value) : VRs ρ own w (cellsOfPV (ofConst z)) z.cells.toList := by
  have one : ∀ p, VR ρ own w p z → z.cells = #[z] → VRs ρ own w [p] z.cells.toList := fun p h e => by
    rw [e, VRs]
    exact ⟨z, [], rfl, h, by rw [VRs]⟩
  cases z with
  | agg cs => exact VRs_ofCell _
  | tuple vs =>
    have h : cellsOfPV (ofConst (.tuple vs)) = [ofConst (.tuple vs)] := by
      unfold ofConst
      split <;> first | rfl | (split <;> rfl) | (rename_i h; cases h)
    rw [h]
    exact one _ (VR_const _) rfl
  | slice A n k =>
    have h : cellsOfPV (ofConst (.slice A n k)) = [ofConst (.slice A n k)] := by
      unfold ofConst ofCell
      split <;> first | rfl | (rename_i h; cases h) | skip
      split <;> rfl
    rw [h]
    exact one _ (VR_const _) rfl
  | pointer A =>
    have h : cellsOfPV (ofConst (.pointer A)) = [ofConst (.pointer A)] := by
      cases A <;> rfl
    rw [h]
    exact one _ (VR_const _) rfl
  | _ => exact one _ (VR_const _) rfl
/-- What an operation does that the machine carries out. -/
def Does (P : Program) {W0 : World} (c : Cx W0) (a : Act) (w : World) (m : Sem Next) (K : PV → St → Option R) (r : R) : Prop :=
  ∃ ρ' own' p v s' w', K p s' = some r ∧ RelX ρ' own' c s' a w' ∧ VR ρ' own' w' p v ∧ (m.run P w = .ok (.value v) w' ∨ (m.run P w = .ok .skip w' ∧ v = undef))
theorem Does.value {m : Sem Value} {K : PV → St → Option R} {p : PV} {v : Value} {s' : St} {ρ' : Nat → Value} {own' : Nat → Prop} {w' : World} (hK : K p s' = some r) (hR : RelX ρ' own' c s' a w') (hv : VR ρ' own' w' p v) (hm : m.run P w = .ok v w') :
    Does P c a w (do pure (.value (← m))) K r := ⟨ρ', own', p, v, s', w', hK, hR, hv, .inl (by simp [hm])⟩
theorem zeroT_info {t : TypeId} {z : PV} (h : zeroT P t = some z) : ∃ i v, P.info? t = some i ∧ i.zero = some v ∧ z = ofConst v := by
  unfold zeroT at h
  cases hi : P.info? t with
  | none => rw [hi] at h; cases h
  | some i =>
    rw [hi] at h
    cases hz : i.zero with
    | none => simp [hz] at h
    | some v =>
      simp [hz] at h
      exact ⟨i, v, rfl, hz, h.symm⟩
theorem does_alloc (h : RelX ρ own c s a w) {t : TypeId} {d : Nat} {z : PV} (hz : zeroT P t = some z) (hd : holdsL d (cellsOfPV z) = false) {K : PV → St → Option R} (hK : K (.ref d 0) (s.add d (.box t (cellsOfPV z))) = some r) :
    Does P c a w (do pure (.value (← Instr.alloc t true (.tuple #[])))) K r := by
  obtain ⟨i, v, hi, hzv, rfl⟩ := zeroT_info hz
  refine Does.value hK (h.box d t (VRs_const v) hd) (v := .pointer (some ⟨w.heap.size, 0, none⟩)) ?_ ?_
  · rw [VR]
    exact ⟨_, upd_same _ _ _, rfl⟩
  · simp [Instr.alloc, zeroValue, typeInfo, hi, hzv, newVar, newRow]
theorem does_box (h : RelX ρ own c s a w) {t : TypeId} {d : Nat} {x : PV} (hk : known s.sto x = true) (hd : holdsL d (cellsOfPV x) = false) {v : Value} (hv : VR ρ own w x v) {K : PV → St → Option R} (hK : K (.ref d 0) (s.add d (.box t (cellsOfPV x))) = some r) :
    Does P c a w (do pure (.value (← Instr.box t v))) K r := by
  refine Does.value hK (h.box d t (VRs_cellsOf h hk hv) hd) (v := .pointer (some ⟨w.heap.size, 0, none⟩)) ?_ ?_
  · rw [VR]
    exact ⟨_, upd_same _ _ _, rfl⟩
  · simp [Instr.box, newVar, newRow]
theorem get_patch {α : Type} (vs v : List α) (o j : Nat) (h : o + v.length ≤ vs.length) : (vs.take o ++ v ++ vs.drop (o + v.length))[j]? = if o ≤ j ∧ j < o + v.length then v[j - o]? else vs[j]? := by
  have hl : (vs.take o).length = o := by simp; omega
  by_cases h1 : j < o
  · rw [if_neg (by omega), List.append_assoc, List.getElem?_append_left (by omega), List.getElem?_take, if_pos h1]
  · by_cases h2 : j < o + v.length
    · rw [if_pos (by omega), List.append_assoc, List.getElem?_append_right (by omega), hl, List.getElem?_append_left (by omega)]
    · rw [if_neg (by omega), List.getElem?_append_right (by simp; omega), List.getElem?_drop]
      congr 1
      simp
      omega
theorem patch_here {α : Type} (vs v : List α) (k sz off : Nat) (h : off + v.length ≤ sz) (hv : k + sz ≤ vs.length) :
    ((vs.take (k + off) ++ v ++ vs.drop (k + off + v.length)).drop k).take sz = ((vs.drop k).take sz).take off ++ v ++ ((vs.drop k).take sz).drop (off + v.length) := by
  apply List.ext_getElem?
  intro j
  rw [get_patch _ _ _ _ (by simp; omega), List.getElem?_take, List.getElem?_drop, get_patch _ _ _ _ (by omega), List.getElem?_take, List.getElem?_drop]
  by_cases h1 : j < sz
  · rw [if_pos h1, if_pos h1]
    by_cases h2 : off ≤ j ∧ j < off + v.length
    · rw [if_pos (by omega), if_pos h2]
      congr 1
      omega
    · rw [if_neg (by omega), if_neg h2]
  · rw [if_neg h1, if_neg h1, if_neg (by omega)]
theorem patch_there {α : Type} (vs v : List α) (k o sz : Nat) (hv : o + v.length ≤ vs.length) (hd : k + sz ≤ o ∨ o + v.length ≤ k) :
    ((vs.take o ++ v ++ vs.drop (o + v.length)).drop k).take sz = (vs.drop k).take sz := by
  apply List.ext_getElem?
  intro j
  rw [List.getElem?_take, List.getElem?_drop, get_patch _ _ _ _ hv, List.getElem?_take, List.getElem?_drop]
  by_cases h1 : j < sz
  · rw [if_pos h1, if_pos h1, if_neg (by omega)]
  · rw [if_neg h1, if_neg h1]
theorem does_store (h : RelX ρ own c s a w) {t : TypeId} {x y : PV} {vx vy : Value} (hx : VR ρ own w x vx) (hy : VR ρ own w y vy) {K : PV → St → Option R} (hK : evStore P s t x y (fun s' => K .undef s') = some r) :
    Does P c a w (do Instr.storeAt t vx vy; pure .skip) K r := by
  unfold evStore at hK
  split at hK
  · cases hK
  · rename_i n hn
    split at hK
    · rename_i hc
      rw [Bool.and_eq_true] at hc
      obtain ⟨hlen, hsol⟩ := hc
      have hlen' : (cellsOfPV y).length = n := by simpa using hlen
      have hys := VRs_cellsOf h (solid_known hsol) hy
      have hone := solids_one h hsol hys
      have hvl : vy.cells.toList.length = n := by rw [hys.len, hlen']
      have hvs : vy.cells.size = n := by simpa using hvl
      split at hK
      · rename_i id off
        split at hK
        · rename_i t0 cs hl
          split at hK
          · rename_i hle
            have hle' : off + n ≤ cs.length := by simpa using hle
            obtain ⟨g, vs, e, hh, hvv⟩ := h.sto id _ hl
            rw [VR] at hx
            obtain ⟨g', e', rfl⟩ := hx
            rw [e] at e'
            cases e'
            have hsz : vs.size = cs.length := by simpa using hvv.len
            have hrun := run_storeCells_at (P := P) g off t0 vy.cells.toList 0 vs w hh (by rw [hvl]; omega) hone
            have hblk : g ∈ blks (ρ id) := in_blk (by rw [e]; rfl)
            have how := h.mine (.inr rfl) hl hblk
            have hag : Agree own w (w.setRow g (vs.toList.take (off + 0) ++ vy.cells.toList ++ vs.toList.drop (off + 0 + vy.cells.toList.length)).toArray) :=
              ⟨by simp, fun k _ hk => setRow_other w g k _ (fun q => hk (q ▸ how.1))⟩
            refine ⟨ρ, own, .undef, undef, _, _, hK, h.turn hl hblk hag ?_ (fun k _ hk => setRow_other w g k _ hk) ?_, by rw [VR]; trivial, .inr ⟨?_, rfl⟩⟩
            · refine h.below.trans (L' := fun k => k = g ) ⟨rfl, rfl, rfl, by simp, fun k _ hk => setRow_other w g k _ hk⟩ (fun k hk q => ?_)
              subst q
              rcases how.2 with q | q
              · omega
              · exact q
            · refine ⟨g, _, e, setRow_heap w g vs _ t0 _ hh, ?_⟩
              have := (hvv.splice hys off).move hag (fun _ _ q => q) (fun _ _ => rfl)
              simpa using this
            · simp [Instr.storeAt, Instr.sureAddr, storeVar, hvs, run_sizeOf_of hn, hrun]
          · cases hK
        · cases hK
      · rename_i id z i off
        split at hK
        · rename_i e τ l hl
          split at hK
          · rename_i hzz
            rw [Bool.and_eq_true, Bool.and_eq_true] at hzz
            have hz' : z = τ.sz := by simpa using hzz.1.1
            have hle : off + n ≤ τ.sz := by simpa using hzz.1.2
            have hng : gst id = false ∨ (Blk.row e τ l).isRow = false := .inl (by simpa using hzz.2)
            subst hz'
            split at hK
            · rename_i y' hu
              rw [VR] at hx
              obtain ⟨g, n', k, e1, hi, rfl⟩ := hx
              obtain ⟨vs, hn', hh, hn2, hk0, hlenu, hrd⟩ := (h.sto id _ hl).elem e1 hi
              subst hn'
              have hm' : (i.toNat + 1) * τ.sz ≤ l.length * τ.sz := Nat.mul_le_mul_right _ hi
              rw [Nat.add_mul, Nat.one_mul] at hm'
              have hvlen : vs.toList.length = vs.size := by simp
              have hrun := run_storeCells_at (P := P) g (i.toNat * τ.sz + off) e vy.cells.toList 0 vs w hh (by rw [hvl]; omega) hone
              rw [Nat.add_zero] at hrun
              have hblk : g ∈ blks (ρ id) := by
                rw [e1]
                cases k with
                | zero => exact absurd rfl hk0
                | succ k => exact in_blk rfl
              have how := h.mine hng hl hblk
              have hag : Agree own w (w.setRow g (vs.toList.take (i.toNat * τ.sz + off) ++ vy.cells.toList ++ vs.toList.drop (i.toNat * τ.sz + off + vy.cells.toList.length)).toArray) :=
                ⟨by simp, fun k _ hk => setRow_other w g k _ (fun q => hk (q ▸ how.1))⟩
              obtain ⟨u', r', e2, hrd', hr'⟩ := uncells_sound hu ((VRs_cells (ρ := ρ) hrd).splice hys off)
              rw [VRs] at hr'
              subst hr'
              rw [List.append_nil] at e2
              refine ⟨ρ, own, .undef, undef, _, _, hK, h.turn hl hblk hag ?_ (fun k _ hk => setRow_other w g k _ hk) ?_, by rw [VR]; trivial, .inr ⟨?_, rfl⟩⟩
              · refine h.below.trans (L' := fun k => k = g) ⟨rfl, rfl, rfl, by simp, fun k _ hk => setRow_other w g k _ hk⟩ (fun k hk q => ?_)
                subst q
                rcases how.2 with q | q
                · omega
                · exact q
              · rcases h.sto id _ hl with ⟨⟨A, e1'⟩, e2'⟩ | ⟨g', k', vs', e1', h1, h2, hh', h3, h5⟩
                · rw [e2'] at hi
                  simp at hi
                · rw [e1'] at e1
                  cases e1
                  rw [hh] at hh'
                  cases hh'
                  refine .inr ⟨g, k', _, by rw [List.length_set]; exact e1', by rw [List.length_set]; exact h1, h2, setRow_heap w g vs _ e _ hh, ?_, fun j x hj => ?_⟩
                  · simp
                    omega
                  · simp only
                    rw [List.getElem?_set] at hj
                    split at hj
                    · rename_i hij
                      subst hij
                      cases hj
                      have := patch_here vs.toList vy.cells.toList (i.toNat * τ.sz) τ.sz off (by omega) (by omega)
                      rw [this, e2]
                      exact hrd'.move hag (fun _ _ q => q)
                    · rename_i hij
                      have hjl : j < l.length := by
                        rcases Nat.lt_or_ge j l.length with q | q
                        · exact q
                        · simp [List.getElem?_eq_none q] at hj
                      have hd : j * τ.sz + τ.sz ≤ i.toNat * τ.sz + off ∨ i.toNat * τ.sz + off + vy.cells.toList.length ≤ j * τ.sz := by
                        rcases Nat.lt_or_gt_of_ne hij with q | q
                        · right
                          have : (i.toNat + 1) * τ.sz ≤ j * τ.sz := Nat.mul_le_mul_right _ q
                          rw [Nat.add_mul, Nat.one_mul] at this
                          omega
                        · left
                          have : (j + 1) * τ.sz ≤ i.toNat * τ.sz := Nat.mul_le_mul_right _ q
                          rw [Nat.add_mul, Nat.one_mul] at this
                          omega
                      rw [patch_there vs.toList vy.cells.toList (j * τ.sz) (i.toNat * τ.sz + off) τ.sz (by omega) hd]
                      exact (h5 j x hj).move hag (fun _ _ q => q)
              · simp [Instr.storeAt, Instr.sureAddr, storeVar, hvs, run_sizeOf_of hn, hrun]
            · cases hK
          · cases hK
        · cases hK
      · cases hK
    · cases hK
end
end Go.Proofs.Ytbaekdcacmoniaa.Pv
