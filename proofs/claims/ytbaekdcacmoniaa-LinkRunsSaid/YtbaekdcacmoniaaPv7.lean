/- Indices, slices, conversions: the model does what the pure machine says. -/
import Derived.Test.YtbaekdcacmoniaaPv6
namespace Go.Proofs.Ytbaekdcacmoniaa.Pv
open Go Go.RowKit

section
variable {R : Type} {r : R} {ρ : Nat → Value} {own : Nat → Prop} {W0 : World} {c : Cx W0} {w : World} {s : St} {a : Act} {P : Program}
theorem stride_info {t : TypeId} {n : Nat} (h : stride P t n = true) : ∃ e, P.underlying t = some (.slice e) ∧ sizeT P e = some n := by
  unfold stride at h
  split at h
  · rename_i e hu
    split at h
    · rename_i z hz
      have : z = n := by simpa using h
      subst this
      exact ⟨e, hu, hz⟩
    · cases h
  · cases h
theorem run_indexAt_slice {t e : TypeId} {z : Nat} (hu : P.underlying t = some (.slice e)) (hz : sizeT P e = some z) {A : Addr} {len cap : Nat} {k : IntKind} {i : Int} (h0 : 0 ≤ i) (h1 : i < (len : Int)) :
    (Instr.indexAt t (.slice (some A) len cap) (.int k i)).run P w = .ok (.pointer (some (A.add (i.toNat * z)))) w := by
  simp [Instr.indexAt, asIntOf, run_underlying hu, h0, h1, run_sizeOf_of hz]
theorem run_indexAddr {t : TypeId} {x i : PV} {K : PV → Option R} (h : evIndexAddr P s t x i K = some r) (hr : RelX ρ own c s a w) {vx vi : Value} (hx : VR ρ own w x vx) (hi : VR ρ own w i vi) :
    ∃ p u, K p = some r ∧ VR ρ own w p u ∧ (Instr.indexAt t vx vi).run P w = .ok u w := by
  unfold evIndexAddr at h
  split at h
  · rename_i k n
    rw [VR] at hi
    subst hi
    split at h
    · rename_i e τ l
      split at h
      · rename_i hst
        obtain ⟨e', hu, hz⟩ := stride_info hst
        split at h
        · rename_i h0
          split at h
          · rename_i h1
            rw [VR] at hx
            obtain ⟨A, cap, rfl, q1, q2, q3, q4⟩ := RdC_list hx
            have hlt : n.toNat < l.length := by omega
            obtain ⟨b, u, rfl, hb1, hb2, hu', hrd, hcell⟩ := q4 n.toNat l[n.toNat] (List.getElem?_eq_getElem hlt)
            refine ⟨_, _, h, ?_, run_indexAt_slice hu hz h0 h1⟩
            rw [VR]
            refine ⟨b.add (n.toNat * τ.sz), u, by rw [Addr.add_zero'], by rw [block_add]; exact hb1, by rw [block_add]; exact hb2, ?_, fun j y hj => by rw [Addr.add_add]; exact hcell j y hj⟩
            rw [List.getD_eq_getElem?_getD, List.getElem?_eq_getElem hlt]
            exact hrd
          · cases h
        · cases h
      · cases h
    · rename_i id
      split at h
      · rename_i e τ l hl
        split at h
        · rename_i hst
          obtain ⟨e', hu, hz⟩ := stride_info hst
          split at h
          · rename_i h0
            split at h
            · rename_i h1
              rw [VR] at hx
              obtain ⟨rfl, _⟩ := hx
              rcases hr.sto id _ hl with ⟨⟨A, e1⟩, e2⟩ | ⟨g, k, vs, e1, _⟩
              · subst e2
                simp at h1
                omega
              · refine ⟨_, _, h, ?_, by rw [e1]; exact run_indexAt_slice hu hz h0 h1⟩
                rw [VR]
                exact ⟨g, _, _, e1, by omega, by rw [Addr.add_lit, Nat.zero_add, Nat.add_zero]⟩
            · cases h
          · cases h
        · cases h
      · cases h
    · rename_i id
      split at h
      · rename_i e e' τ l o hl
        split at h
        · rename_i hst
          obtain ⟨e', hu, hz⟩ := stride_info hst
          split at h
          · rename_i h0
            split at h
            · rename_i h1
              rw [VR] at hx
              obtain ⟨us, ev⟩ := hx
              obtain ⟨g, k, e1⟩ := DeepR.head' (hr.sto id _ hl) ev (by omega)
              subst e1
              refine ⟨_, .pointer (some ⟨g, n.toNat, none⟩), h, ?_, ?_⟩
              · rw [VR]
                exact ⟨g, _, _, us, ev, h0, by omega, rfl⟩
              · rw [run_indexAt_slice hu hz h0 h1, Addr.add_lit, Nat.zero_add, Nat.mul_one]
            · cases h
          · cases h
        · cases h
      · cases h
    · rename_i id off
      split at h
      · rename_i len e hu
        split at h
        · rename_i sz hz
          split at h
          · rename_i h0
            split at h
            · rename_i h1
              rw [VR] at hx
              obtain ⟨g, e1, rfl⟩ := hx
              refine ⟨_, .pointer (some ⟨g, off + n.toNat * sz, none⟩), h, ?_, ?_⟩
              · rw [VR]
                exact ⟨g, e1, rfl⟩
              · simp [Instr.indexAt, asIntOf, run_underlying hu, Instr.sureAddr, h0, h1, run_sizeOf_of hz, Addr.add_lit]
            · cases h
          · cases h
        · cases h
      · cases h
    · cases h
  · cases h
theorem intsOf_get {k : IntKind} : ∀ {cs : List PV} {l : List Int}, intsOf k cs = some l → ∀ i, i < l.length → cs[i]? = some (.int k (l.getD i 0))
  | [], l, h, i, hi => by
    rw [intsOf] at h
    cases h
    simp at hi
  | c :: r, l, h, i, hi => by
    cases c <;> simp only [intsOf] at h <;> first
      | (cases h; done)
      | (split at h
         case isFalse => cases h
         rename_i hk
         subst hk
         split at h
         · rename_i l' hl
           cases h
           cases i with
           | zero => rfl
           | succ i =>
             have := intsOf_get hl i (by simpa using hi)
             simpa using this
         · cases h)
theorem elemA_part {e : TypeId} {len sz : Nat} {cs : List PV} {n : Int} {p : PV} (h : elemA P e len sz cs n = some p) (h0 : 0 ≤ n) (h1 : n < (len : Int)) : partT P e cs (n.toNat * sz) = some p := by
  unfold elemA at h
  split at h
  · rename_i k x r ha
    split at h
    · rename_i l hl
      split at h
      · rename_i hq
        cases h
        have hlen : l.length = len := Nat.eq_of_beq_eq_true hq
        unfold partT
        rw [ha]
        simp only
        rw [Nat.mul_one]
        exact intsOf_get hl n.toNat (by omega)
      · cases h
    · exact h
  · exact h
theorem run_index {t : TypeId} {x i : PV} {K : PV → Option R} (h : evIndex P t x i K = some r) {vx vi : Value} (hx : VR ρ own w x vx) (hi : VR ρ own w i vi) :
    ∃ p u, K p = some r ∧ VR ρ own w p u ∧ (Instr.index t vx vi).run P w = .ok u w := by
  unfold evIndex at h
  split at h
  · rename_i k n b hu
    rw [VR] at hi
    rw [VR] at hx
    subst hi hx
    split at h
    · rename_i h0
      split at h
      · rename_i h1
        have hlt : n.toNat < b.size := by omega
        have e1 : b[n.toNat]? = some b[n.toNat] := getElem?_pos b n.toNat hlt
        have e2 : (bytesOf b).getD n.toNat 0 = (b[n.toNat].toNat : Int) := by
          rw [bytesOf, List.getD_eq_getElem?_getD, List.getElem?_map]
          have : b.data.toList[n.toNat]? = some b[n.toNat] := by
            rw [Array.getElem?_toList]
            exact getElem?_pos b.data n.toNat hlt
          rw [this]
          rfl
        rw [e2] at h
        exact ⟨_, _, h, by rw [VR], by simp [Instr.index, asIntOf, run_underlying hu, h0, e1]⟩
      · cases h
    · cases h
  · rename_i k n cs len e hu
    rw [VR] at hi
    rw [VR] at hx
    subst hi
    obtain ⟨vs, rfl, hv⟩ := hx
    split at h
    · rename_i h0
      split at h
      · rename_i h1
        split at h
        · rename_i sz hz
          split at h
          · rename_i p hp
            obtain ⟨u, q1, q2⟩ := run_part_of (elemA_part hp h0 h1) hv
            exact ⟨_, u, h, q2, by simp [Instr.index, asIntOf, run_underlying hu, h0, h1, run_sizeOf_of hz, q1]⟩
          · cases h
        · cases h
      · cases h
    · cases h
  · cases h
theorem bytes_cells {A : Addr} {l : List Int} (h : ∀ (i : Nat) (x : Int), l[i]? = some x → w.cell? (A.add i) = some (.int .u8 x)) : (loadCells A l.length).run P w = .ok (l.map (Value.int .u8)).toArray w := by
  have := run_loadCells_list (P := P) w A (l.map (Value.int .u8)) (fun j v hj => by
    rw [List.getElem?_map] at hj
    cases hx : l[j]? with
    | none => rw [hx] at hj; cases hj
    | some x =>
      rw [hx] at hj
      cases hj
      exact h j x hx)
  simpa using this
/-- The contents of a slice's value. -/
theorem contents_of {e : TypeId} {t : Ty} {x : PV} {l : List t.den} (h : contents s e t x = some l) (hr : RelX ρ own c s a w) {v : Value} (hv : VR ρ own w x v) :
    ∃ A k, v = .slice A l.length k ∧ (A = none → l = [] ∧ k = 0) ∧ ∀ b, A = some b → ∀ (i : Nat) (y : t.den), l[i]? = some y → ∃ u : List Value, u.length = t.sz ∧ RdC own w t y u ∧ ∀ (j : Nat) (z : Value), u[j]? = some z → w.cell? (b.add (i * t.sz + j)) = some z := by
  unfold contents at h
  split at h
  · rw [VR] at hv
    cases h
    exact ⟨none, 0, hv, fun _ => ⟨rfl, rfl⟩, fun _ e => (by cases e)⟩
  · rw [VR] at hv
    obtain ⟨A, rfl⟩ := hv
    cases h
    exact ⟨A, 0, rfl, fun _ => ⟨rfl, rfl⟩, fun b _ i y hy => by simp at hy⟩
  · rw [VR] at hv
    obtain ⟨b0, k, rfl⟩ := hv
    cases h
    exact ⟨some b0, k, rfl, fun e => (by cases e), fun b _ i y hy => by simp at hy⟩
  · obtain ⟨rfl, rfl, rfl⟩ := sameRow_eq h
    rw [VR] at hv
    obtain ⟨A, k, rfl, q1, q2, q3, q4⟩ := RdC_list hv
    refine ⟨A, k, rfl, fun e => ?_, fun b e i y hy => ?_⟩
    · have := q3 e
      exact ⟨List.eq_nil_of_length_eq_zero (by omega), this⟩
    · obtain ⟨b', u, e', _, _, h1, h2, h3⟩ := q4 i y hy
      rw [e] at e'
      cases e'
      exact ⟨u, h1, h2, h3⟩
  · rename_i id
    split at h
    · rename_i e' t' l' hl
      obtain ⟨rfl, rfl, rfl⟩ := sameRow_eq h
      rw [VR] at hv
      obtain ⟨rfl, _⟩ := hv
      have hb := hr.sto id _ hl
      rcases hb with ⟨⟨A, e1⟩, e2⟩ | ⟨g, k, vs, e1, h1, h2, hh, h3, h5⟩
      · subst e2
        exact ⟨A, 0, e1, fun _ => ⟨rfl, rfl⟩, fun b _ i y hy => by simp at hy⟩
      · refine ⟨_, _, e1, fun e => (by cases e), fun b e i y hy => ?_⟩
        cases e
        have hi : i < l'.length := by
          rcases Nat.lt_or_ge i l'.length with q | q
          · exact q
          · simp [List.getElem?_eq_none q] at hy
        have hm : l'.length * t'.sz ≤ (k + 1) * t'.sz := Nat.mul_le_mul_right _ h1
        have hm' : (i + 1) * t'.sz ≤ l'.length * t'.sz := Nat.mul_le_mul_right _ hi
        rw [Nat.add_mul, Nat.one_mul] at hm'
        refine ⟨_, by simp; omega, h5 i y hy, fun j z hj => ?_⟩
        rw [Addr.add_lit, cell_of_block hh]
        rw [List.getElem?_take] at hj
        split at hj
        · rw [List.getElem?_drop] at hj
          simpa using hj
        · cases hj
    · cases h
  · cases h
/-- A conversion either leaves the world alone, or makes a block that nobody owns. -/
theorem run_conv {src dst : TypeId} {x : PV} {K : PV → St → Option R} (h : evConv P s src dst x K = some r) (hr : RelX ρ own c s a w) {v : Value} (hv : VR ρ own w x v) :
    ∃ p u w', K p s = some r ∧ Agree (fun _ => False) w w' ∧ Beneath (fun _ => False) w w' ∧ VR ρ own w' p u ∧ (convert src dst v).run P w = .ok u w' := by
  unfold evConv at h
  split at h
  · rename_i ds k k' n hs hd
    rw [VR] at hv
    subst hv
    exact ⟨_, .int k (k.wrap n), w, h, Agree.refl _ _, Beneath.refl _ _, by rw [VR], by simp [convert, run_underlying hs, run_underlying hd, Conv.intToInt]⟩
  · rename_i b hs hd
    rw [VR] at hv
    subst hv
    exact ⟨_, .string b, w, h, Agree.refl _ _, Beneath.refl _ _, by rw [VR], by simp [convert, run_underlying hs, run_underlying hd]⟩
  · rename_i e hs hd
    split at h
    · rename_i l he hl
      obtain ⟨A, k, rfl, h1, h2⟩ := contents_of hl hr hv
      refine ⟨_, .string (strOf l), w, h, Agree.refl _ _, Beneath.refl _ _, by rw [VR], ?_⟩
      cases A with
      | none =>
        obtain ⟨rfl, rfl⟩ := h1 rfl
        have : strOf [] = ByteArray.empty := rfl
        rw [this]
        exact run_convert_bytes_nil w src e hs he _ _ dst hd
      | some b =>
        have hc : ∀ (i : Nat) (x : Int), l[i]? = some x → w.cell? (b.add i) = some (.int .u8 x) := fun i x hx => by
          obtain ⟨u, q1, q2, q3⟩ := h2 b rfl i x hx
          rw [RdC.eq_def] at q2
          subst q2
          have := q3 0 _ rfl
          simpa [Ty.sz] using this
        rw [run_convert_bytes_string w src dst e _ _ k hs he hd, run_bytesToString w b l.length k l (bytes_cells hc), foldl_push_bytes]
        simp [strOf, strOfNums, ByteArray.empty, ByteArray.emptyWithCapacity]
        rfl
    · cases h
  · rename_i e b hs hd
    rw [VR] at hv
    subst hv
    split at h
    · rename_i he
      split at h
      · rename_i hsz
        have hrun := run_bytes_of_string w src dst e b hs hd he
        have hmax : b.size ≤ maxLen := by simp only [maxLen]; omega
        have hnew : ∀ C fr, (w.drew.alloc (.cells C e fr)).heap[w.heap.size]? = some (.cells C e fr) := fun C fr => by
          show (w.heap.push _)[w.heap.size]? = _
          simp
        have hsize : ∀ C fr, (w.drew.alloc (.cells C e fr)).heap.size = w.heap.size + 1 := fun C fr => by
          show (w.heap.push _).size = _
          simp
        have hold : ∀ C fr g, g < w.heap.size → (w.drew.alloc (.cells C e fr)).heap[g]? = w.heap[g]? := fun C fr g hg => by
          show (w.heap.push _)[g]? = _
          rw [Array.getElem?_push, if_neg (by omega)]
        refine ⟨_, _, _, h, ⟨by rw [hsize]; omega, fun g hg _ => hold _ _ g hg⟩, ⟨rfl, rfl, rfl, by rw [hsize]; omega, fun g hg _ => hold _ _ g hg⟩, ?_, hrun⟩
        have hlen : (bytesOf b).length = b.size := by rw [bytesOf, List.length_map, Array.length_toList]; rfl
        rw [VR, RdC.eq_def]
        refine ⟨_, _, by rw [hlen], by rw [hlen]; exact grownCap_ge w b.size 0 e, grownCap_le_maxLen w b.size 0 e hmax, fun q => (by cases q), fun i x hx => ?_⟩
        have hi : i < b.size := by
          rcases Nat.lt_or_ge i (bytesOf b).length with q | q
          · omega
          · simp [List.getElem?_eq_none q] at hx
        refine ⟨⟨w.heap.size, 0, none⟩, [.int .u8 x], rfl, fun q => absurd (hr.lo _ q) (Nat.lt_irrefl _), by rw [hsize]; exact Nat.lt_succ_self _, rfl, by rw [RdC.eq_def], fun j y hj => ?_⟩
        have hj0 : j = 0 := by
          cases j with
          | zero => rfl
          | succ j => simp at hj
        subst hj0
        cases hj
        rw [Addr.add_lit, cell_of_block (hnew _ _)]
        have e1 : (bytesRow b (grownCap w b.size 0 e))[0 + (i * Ty.sz (.int .u8) + 0)]? = (b.data.map (fun b => Value.int .u8 b.toNat))[i]? := by
          rw [show 0 + (i * Ty.sz (.int .u8) + 0) = i by simp [Ty.sz]]
          unfold bytesRow
          rw [Array.getElem?_append_left (by rw [Array.size_map]; exact hi)]
        rw [e1, Array.getElem?_map]
        rw [bytesOf, List.getElem?_map, Array.getElem?_toList] at hx
        cases hq : b.data[i]? with
        | none => rw [hq] at hx; cases hx
        | some z =>
          rw [hq] at hx
          cases hx
          rfl
      · cases h
    · cases h
  · cases h
end
end Go.Proofs.Ytbaekdcacmoniaa.Pv
