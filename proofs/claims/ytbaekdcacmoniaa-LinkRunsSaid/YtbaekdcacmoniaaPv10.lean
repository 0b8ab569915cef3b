/- Composites, slices' literals, append, make. -/
import Derived.Test.YtbaekdcacmoniaaPv9
namespace Go.Proofs.Ytbaekdcacmoniaa.Pv
open Go Go.RowKit

section
variable {R : Type} {r : R} {ρ : Nat → Value} {own : Nat → Prop} {W0 : World} {c : Cx W0} {w w1 : World} {s : St} {a : Act} {P : Program}
theorem fold_patch (off : Nat) : ∀ (l : List Value) (k : Nat) (cells : Array Value), off + k + l.length ≤ cells.size →
    ((l.zipIdx k).foldl (fun cs (x : Value × Nat) => cs.setIfInBounds (off + x.2) x.1) cells).toList = cells.toList.take (off + k) ++ l ++ cells.toList.drop (off + k + l.length)
  | [], k, cells, _ => by simp
  | v :: l, k, cells, h => by
    have hl : off + k < cells.size := by simp at h; omega
    rw [List.zipIdx_cons, List.foldl_cons, fold_patch off l (k + 1) _ (by simp at h ⊢; omega)]
    apply List.ext_getElem?
    intro j
    have e1 : off + (k + 1) = off + k + 1 := by omega
    have h2 : off + k + (v :: l).length ≤ cells.toList.length := by simp at h ⊢; omega
    have e2 := get_patch (cells.setIfInBounds (off + k) v).toList l (off + k + 1) j (by simp at h ⊢; omega)
    have e3 := get_patch cells.toList (v :: l) (off + k) j h2
    simp only [e1]
    rw [e2, e3]
    by_cases h1 : off + k + 1 ≤ j ∧ j < off + k + 1 + l.length
    · rw [if_pos h1, if_pos (by simp; omega)]
      have : j - (off + k) = (j - (off + k + 1)) + 1 := by omega
      rw [this, List.getElem?_cons_succ]
    · rw [if_neg h1]
      by_cases h3 : j = off + k
      · subst h3
        rw [if_pos (by simp), Nat.sub_self]
        simp [hl]
      · rw [if_neg (by simp; omega)]
        simp only [Array.toList_setIfInBounds, List.getElem?_set]
        rw [if_neg (by omega)]
theorem fill_step {place : Nat → Option (Nat × Nat)} {i off n : Nat} (hp : place i = some (off, n)) {v : Value} (hn : v.cells.size = n) {cells : Array Value} (hle : off + n ≤ cells.size) (rest : List (Nat × Value)) :
    Instr.fill place cells ((i, v) :: rest) = Instr.fill place (cells.toList.take off ++ v.cells.toList ++ cells.toList.drop (off + n)).toArray rest := by
  have := fold_patch off v.cells.toList 0 cells (by simp; omega)
  rw [Instr.fill, hp]
  simp only
  rw [if_neg (by simp; omega)]
  congr 1
  apply Array.ext'
  rw [← Array.foldl_toList, Array.toList_zipIdx]
  simp only [Nat.add_zero] at this
  rw [this]
  simp [hn]
theorem fill_of (hr : RelX ρ own c s a w) {sz : Nat → Option (Nat × Nat)} : ∀ (parts : List (Nat × Operand)) {cs : List PV} {out : List PV}, fillParts s.sto sz cs (parts.map fun p => (p.1, s.ev p.2)) = some out → ∀ {vs : Array Value}, VRs ρ own w cs vs.toList →
    ∃ vo, Instr.fill sz vs (parts.map fun p => (p.1, a.eval p.2)) = some vo ∧ VRs ρ own w out vo.toList
  | [], cs, out, h, vs, hv => by
    simp only [List.map_nil, fillParts] at h
    cases h
    exact ⟨vs, rfl, hv⟩
  | (i, x) :: r, cs, out, h, vs, hv => by
    simp only [List.map_cons, fillParts] at h
    split at h
    · rename_i off n hs
      split at h
      · rename_i hc
        rw [Bool.and_eq_true, Bool.and_eq_true] at hc
        obtain ⟨⟨hk, hl⟩, hle⟩ := hc
        have hl' : (cellsOfPV (s.ev x)).length = n := by simpa using hl
        have hle' : off + n ≤ cs.length := by simpa using hle
        have hx := VRs_cellsOf hr hk (hr.ev x)
        have hsz : (a.eval x).cells.size = n := by
          have := hx.len
          simp at this
          omega
        have hvs : vs.size = cs.length := by simpa using hv.len
        rw [List.map_cons, fill_step hs hsz (by omega)]
        refine fill_of hr r h ?_
        have := hv.splice hx off
        simpa [hsz] using this
      · cases h
    · cases h
theorem places_mapM : ∀ {fs : List Field} {ps : List (Nat × Nat)}, places P fs = some ps → fs.mapM (fun f => (P.info? f.type).map fun i => (f.offset, i.size)) = some ps
  | [], ps, h => by
    rw [places] at h
    cases h
    rfl
  | f :: r, ps, h => by
    rw [places] at h
    split at h
    · rename_i n l hn hl
      cases h
      obtain ⟨i, hi, rfl⟩ := sizeT_info hn
      simp [List.mapM_cons, hi, places_mapM hl]
    · cases h
theorem run_build_of (hr : RelX ρ own c s a w) {t : TypeId} {parts : Array (Nat × Operand)} {p : PV} (h : evBuild P s.sto t (parts.toList.map fun p => (p.1, s.ev p.2)) = some p) :
    ∃ v, (Instr.build t (parts.map fun (i, x) => (i, a.eval x))).run P w = .ok v w ∧ VR ρ own w p v := by
  unfold evBuild at h
  split at h
  · rename_i z fs hz hu
    obtain ⟨i, zv, hi, hzv, rfl⟩ := zeroT_info hz
    split at h
    · rename_i ps hps
      rw [Option.map_eq_some_iff] at h
      obtain ⟨out, hf, rfl⟩ := h
      obtain ⟨vo, h1, h2⟩ := fill_of hr parts.toList hf (VRs_const zv)
      refine ⟨.agg vo, run_build w t _ vo ?_, by rw [VR]; exact ⟨vo, rfl, h2⟩⟩
      unfold Program.built
      simp only [hi, hu, hzv, places_mapM hps]
      rw [Array.toList_map]
      simpa using h1
    · cases h
  · rename_i z len e hz hu
    obtain ⟨i, zv, hi, hzv, rfl⟩ := zeroT_info hz
    split at h
    · rename_i n hn
      obtain ⟨ie, hie, rfl⟩ := sizeT_info hn
      rw [Option.map_eq_some_iff] at h
      obtain ⟨out, hf, rfl⟩ := h
      obtain ⟨vo, h1, h2⟩ := fill_of hr parts.toList hf (VRs_const zv)
      refine ⟨.agg vo, run_build w t _ vo ?_, by rw [VR]; exact ⟨vo, rfl, h2⟩⟩
      unfold Program.built
      simp only [hi, hu, hzv, hie]
      rw [Array.toList_map]
      exact h1
    · cases h
  · cases h
/-- A row's cells, element by element. -/
def Elems (own : Nat → Prop) (w : World) (t : Ty) (l : List t.den) (us : List Value) : Prop := us.length = l.length * t.sz ∧ ∀ (i : Nat) (x : t.den), l[i]? = some x → RdC own w t x ((us.drop (i * t.sz)).take t.sz)
theorem Elems.nil {t : Ty} : Elems own w t [] [] := ⟨by simp, fun i x h => by simp at h⟩
theorem Elems.append {t : Ty} {l m : List t.den} {us vs : List Value} (h : Elems own w t l us) (k : Elems own w t m vs) : Elems own w t (l ++ m) (us ++ vs) := by
  refine ⟨by simp [h.1, k.1, Nat.add_mul], fun i x hx => ?_⟩
  rcases Nat.lt_or_ge i l.length with q | q
  · rw [List.getElem?_append_left q] at hx
    have hm : (i + 1) * t.sz ≤ l.length * t.sz := Nat.mul_le_mul_right _ q
    rw [Nat.add_mul, Nat.one_mul] at hm
    have := h.1
    rw [List.drop_append_of_le_length (by omega), List.take_append_of_le_length (by simp; omega)]
    exact h.2 i x hx
  · rw [List.getElem?_append_right q] at hx
    have e : i * t.sz = us.length + (i - l.length) * t.sz := by
      rw [h.1, ← Nat.add_mul]
      congr 1
      omega
    rw [e, List.drop_append]
    have := h.1
    rw [List.drop_eq_nil_of_le (by omega), List.nil_append, Nat.add_sub_cancel_left]
    exact k.2 _ x hx
theorem Elems.one {t : Ty} {x : t.den} {us : List Value} (h : RdC own w t x us) : Elems own w t [x] us := by
  refine ⟨by simp [h.len], fun i y hy => ?_⟩
  cases i with
  | zero =>
    cases hy
    rw [Nat.zero_mul, List.drop_zero, List.take_of_length_le (by rw [h.len]; exact Nat.le_refl _)]
    exact h
  | succ i => simp at hy
theorem Elems.move {own' : Nat → Prop} {t : Ty} {l : List t.den} {us : List Value} (h : Elems own w t l us) (hw : Agree own w w1) (ho : ∀ g, g < w.heap.size → own' g → own g) : Elems own' w1 t l us := ⟨h.1, fun i x hx => (h.2 i x hx).move hw ho⟩
theorem Elems.oneCell {t : Ty} {l : List t.den} {us : List Value} (h : Elems own w t l us) (hz : 0 < t.sz) : ∀ v ∈ us, v.oneCell' = true := by
  intro v hv
  obtain ⟨j, hj, rfl⟩ := List.getElem_of_mem hv
  have hi : j / t.sz < l.length := by
    rw [h.1] at hj
    exact Nat.div_lt_of_lt_mul (by rw [Nat.mul_comm]; exact hj)
  have := (h.2 (j / t.sz) _ (List.getElem?_eq_getElem hi)).one
  refine this _ ?_
  have e : ((us.drop (j / t.sz * t.sz)).take t.sz)[j % t.sz]? = some us[j] := by
    rw [List.getElem?_take, if_pos (Nat.mod_lt _ hz), List.getElem?_drop, Nat.mul_comm, Nat.div_add_mod]
    exact List.getElem?_eq_getElem hj
  exact List.mem_of_getElem? e
/-- A row of its own, in a block whose first cells are these. -/
theorem BR.of_elems {id : Nat} {e : TypeId} {t : Ty} {l : List t.den} {us : List Value} (h : Elems own w t l us) {g k : Nat} {cur : Array Value} (hr : ρ id = .slice (some ⟨g, 0, none⟩) l.length k) (h1 : l.length ≤ k) (h2 : k ≤ maxLen) (hh : w.heap[g]? = some (.cells cur e (0, 0))) (hs : cur.size = k * t.sz) (ht : cur.toList.take us.length = us) :
    BR ρ own w id (.row e t l) := by
  cases k with
  | zero =>
    have : l = [] := List.eq_nil_of_length_eq_zero (by omega)
    subst this
    exact .inl ⟨⟨_, hr⟩, rfl⟩
  | succ k =>
    refine .inr ⟨g, k, cur, hr, h1, h2, hh, hs, fun i x hx => ?_⟩
    have := h.2 i x hx
    have hi : i < l.length := by
      rcases Nat.lt_or_ge i l.length with q | q
      · exact q
      · simp [List.getElem?_eq_none q] at hx
    have hm : (i + 1) * t.sz ≤ l.length * t.sz := Nat.mul_le_mul_right _ hi
    rw [Nat.add_mul, Nat.one_mul] at hm
    have hl := h.1
    rw [← ht, List.drop_take, List.take_take, Nat.min_eq_left (by omega)] at this
    exact this
theorem elemT_info {t e : TypeId} {τ : Ty} {b : Nat} (h : elemT P t = some (e, τ, b)) : ∃ i z, P.underlying t = some (.slice e) ∧ P.info? e = some i ∧ i.zero = some z ∧ i.size = τ.sz ∧ i.bytes = b ∧ z.cells.size = τ.sz ∧ 0 < τ.sz ∧ 0 < b ∧ zeroT P e = some (ofConst z) := by
  unfold elemT at h
  split at h
  · rename_i e' hu
    split at h
    · rename_i τ' b' n z hτ hb hn hz
      split at h
      · rename_i hc
        cases h
        rw [Bool.and_eq_true, Bool.and_eq_true, Bool.and_eq_true] at hc
        obtain ⟨⟨⟨c1, c2⟩, c3⟩, c4⟩ := hc
        have c1' : n = τ.sz := by simpa using c1
        have c2' : 1 ≤ n := by simpa using c2
        have c3' : 1 ≤ b := by simpa using c3
        have c4' : (cellsOfPV z).length = n := by simpa using c4
        obtain ⟨i, zv, hi, hzv, rfl⟩ := zeroT_info hz
        obtain ⟨i', hi', hs'⟩ := sizeT_info hn
        rw [hi] at hi'
        cases hi'
        have hb' : i.bytes = b := by simpa [bytesT, hi] using hb
        have := (VRs_const (ρ := fun _ => undef) (own := fun _ => False) (w := default) zv).len
        exact ⟨i, zv, hu, hi, hzv, by omega, hb', by simp at this; omega, by omega, by omega, hz⟩
      · cases h
    · cases h
  · cases h
end
end Go.Proofs.Ytbaekdcacmoniaa.Pv
