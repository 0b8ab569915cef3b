/- make, slices of slices. -/
import Derived.Test.YtbaekdcacmoniaaPv11
import Derived.Laws.OwnMore
import Derived.Lib.AppendZeros
namespace Go.Proofs.Ytbaekdcacmoniaa.Pv
open Go Go.RowKit

section
variable {R : Type} {r : R} {ρ : Nat → Value} {own : Nat → Prop} {W0 : World} {c : Cx W0} {w w1 : World} {s : St} {a : Act} {P : Program}
theorem elems_made {t : Ty} {x : t.den} {z : Array Value} (h : RdC own w t x z.toList) (n : Nat) : Elems own w t (List.replicate n x) (madeCells z (n * t.sz)).toList := by
  have hz : z.size = t.sz := by simpa using h.len
  refine ⟨by simp [madeCells], fun i y hy => ?_⟩
  have hi : i < n := by
    rcases Nat.lt_or_ge i n with q | q
    · exact q
    · rw [List.getElem?_eq_none (by simpa using q)] at hy
      cases hy
  have hyx : y = x := by
    rw [List.getElem?_replicate, if_pos hi] at hy
    exact (Option.some.inj hy).symm
  subst hyx
  have hm : (i + 1) * t.sz ≤ n * t.sz := Nat.mul_le_mul_right _ hi
  rw [Nat.add_mul, Nat.one_mul] at hm
  have : ((madeCells z (n * t.sz)).toList.drop (i * t.sz)).take t.sz = z.toList := by
    apply List.ext_getElem?
    intro j
    rw [List.getElem?_take]
    by_cases hj : j < t.sz
    · rw [if_pos hj, List.getElem?_drop]
      simp only [madeCells, Array.toList_map, Array.toList_range, List.getElem?_map]
      rw [List.getElem?_range (by omega), Option.map_some, hz, Nat.add_comm, Nat.add_mul_mod_self_right, Nat.mod_eq_of_lt hj]
      rw [Array.getElem?_toList, Array.getElem?_eq_getElem (by omega)]
      congr 1
      exact getElem!_pos z j (by omega)
    · rw [if_neg hj, List.getElem?_eq_none (by simp; omega)]
  rw [this]
  exact h
/-- What a make yields. -/
theorem does_made (h : RelX ρ own c s a w) {e : TypeId} {τ : Ty} {d n k : Nat} {l : List τ.den} {us : List Value} (hl : l.length = n) (hel : ∀ own' w1, Agree own w w1 → Elems own' w1 τ l us) {m : Sem Value}
    (hrun : ∃ w', m.run P w = .ok (.slice (some ⟨w.heap.size, 0, none⟩) n k) w' ∧ w'.ownsRow 0 e τ.sz (.slice (some ⟨w.heap.size, 0, none⟩) n k) n us ∧ w.grownBy w' none) {K : PV → St → Option R} (hK : K (.own d) (s.add d (.row e τ l)) = some r) :
    Does P c a w (do pure (.value (← m))) K r := by
  obtain ⟨w', h1, h2, h3⟩ := hrun
  obtain ⟨hul, h2⟩ := h2
  rcases h2 with ⟨q, _⟩ | ⟨g, cap, cur, q, _, hh, hnc, hcm, hcs, htk⟩
  · cases q
  · cases q
    have hg : w.heap.size < w'.heap.size := by
      rcases Nat.lt_or_ge w.heap.size w'.heap.size with q | q
      · exact q
      · simp [Array.getElem?_eq_none q] at hh
    have hold : ∀ g, g < w.heap.size → w'.heap[g]? = w.heap[g]? := fun g hg => h3.block g hg (by simp)
    have hag : Agree own w w' := ⟨h3.size, fun g hg _ => hold g hg⟩
    refine Does.value hK (h.fresh d (.slice (some ⟨w.heap.size, 0, none⟩) n k) _ hold hg ⟨h3.os, h3.tape, h3.output, h3.size, fun g hg _ => hold g hg⟩ (fun g q => ?_) ?_) VR_own_new h1
    · cases k with
      | zero => cases q
      | succ k => exact List.mem_singleton.1 q
    · refine BR.of_elems (g := w.heap.size) (k := k) (hel _ _ hag) (by rw [upd_same, hl]) (by omega) hcm hh hcs ?_
      rw [hul]
      exact htk
/-- The zero of a slice. -/
theorem nil_zero (w0 : World) {o : Bool} {e : TypeId} {t : Ty} {z : Value} {x : List t.den} (h : uncells (.list o e t) (cellsOfPV (ofConst z)) = some (x, [])) : x = [] ∧ z.cells.toList = [.slice none 0 0] := by
  have key : ∀ v : Value, unRow e t [ofCell v] = some (x, []) → x = [] ∧ v = .slice none 0 0 := by
    intro v hv
    unfold ofCell at hv
    split at hv <;> first | (cases hv; exact ⟨rfl, rfl⟩) | cases hv
  have one : ∀ v : Value, cellsOfPV (ofCell v) = [ofCell v] := by
    intro v
    unfold ofCell
    split <;> rfl
  unfold ofConst at h
  split at h
  · rename_i cs
    have h' : unRow e t (cs.toList.map ofCell) = some (x, []) := h
    rcases hc : cs.toList with _ | ⟨v, r⟩
    · rw [hc] at h'
      cases h'
    · rw [hc, List.map_cons] at h'
      have hr : r = [] := by
        obtain ⟨p, hp, _⟩ := unRow_sound (ρ := fun _ => undef) (own := fun _ => False) (w := w0) (o := o) h'
        have := (List.cons.inj hp).2
        simpa using this
      subst hr
      obtain ⟨k1, k2⟩ := key v h'
      exact ⟨k1, by show cs.toList = _; rw [hc, k2]⟩
  · split at h
    · cases h
    · cases h
  · rename_i hna hnt
    rw [one] at h
    obtain ⟨k1, k2⟩ := key z h
    subst k2
    exact ⟨k1, rfl⟩
theorem made_nil (v : Value) (n : Nat) : (madeCells #[v] n).toList = List.replicate n v := by
  apply List.ext_getElem?
  intro i
  simp only [madeCells, Array.toList_map, Array.toList_range, List.getElem?_map, List.getElem?_replicate]
  by_cases h : i < n
  · rw [List.getElem?_range h, if_pos h, Option.map_some]
    congr 1
    simp [Nat.mod_one]
  · rw [if_neg h, List.getElem?_eq_none (by simp; omega)]
    rfl
/-- What a make of a slice of slices yields. -/
theorem does_made_deep (h : RelX ρ own c s a w) {e e' : TypeId} {t : Ty} {d n : Nat} {m : Sem Value}
    (hrun : ∃ w', m.run P w = .ok (.slice (some ⟨w.heap.size, 0, none⟩) n n) w' ∧ w'.ownsRow 0 e 1 (.slice (some ⟨w.heap.size, 0, none⟩) n n) n (List.replicate n (.slice none 0 0)) ∧ w.grownBy w' none) {K : PV → St → Option R} (hK : K (.deep d) (s.add d (.deep e e' t (List.replicate n []) none)) = some r) :
    Does P c a w (do pure (.value (← m))) K r := by
  obtain ⟨w', h1, h2, h3⟩ := hrun
  obtain ⟨hul, h2⟩ := h2
  rcases h2 with ⟨q, _⟩ | ⟨g, cap, cur, q, _, hh, hnc, hcm, hcs, htk⟩
  · cases q
  · cases q
    have hg : w.heap.size < w'.heap.size := by
      rcases Nat.lt_or_ge w.heap.size w'.heap.size with q | q
      · exact q
      · simp [Array.getElem?_eq_none q] at hh
    have hold : ∀ g, g < w.heap.size → w'.heap[g]? = w.heap[g]? := fun g hg => h3.block g hg (by simp)
    have hnil : (List.replicate n (Value.slice none 0 0)).flatMap blks1 = [] := by
      rw [List.flatMap_eq_nil_iff]
      intro x hx
      rw [List.eq_of_mem_replicate hx]
      rfl
    have hbl : blks (.agg (Value.slice (some ⟨w.heap.size, 0, none⟩) n n :: List.replicate n (.slice none 0 0)).toArray) = blks1 (.slice (some ⟨w.heap.size, 0, none⟩) n n) := by
      show List.flatMap blks1 (_ :: _) = _
      rw [List.flatMap_cons, hnil, List.append_nil]
    refine Does.value hK (h.fresh d (.agg (Value.slice (some ⟨w.heap.size, 0, none⟩) n n :: List.replicate n (.slice none 0 0)).toArray) _ hold hg ⟨h3.os, h3.tape, h3.output, h3.size, fun g hg _ => hold g hg⟩ (fun g q => ?_) ?_) (by rw [VR]; exact ⟨_, upd_same _ _ _⟩) h1
    · rw [hbl] at q
      cases n with
      | zero => cases q
      | succ n => exact List.mem_singleton.1 q
    · refine ⟨_, _, upd_same _ _ _, by simp, ?_, ?_, fun i x u hx hu => ?_⟩
      · rw [upd_same, hbl]
        cases n with
        | zero => exact List.nodup_nil
        | succ n => exact List.nodup_cons.2 ⟨by simp, List.nodup_nil⟩
      · cases n with
        | zero => exact .inl ⟨⟨_, rfl⟩, rfl⟩
        | succ n =>
          refine .inr ⟨w.heap.size, n, cur, by simp, by simp, by simpa using hcm, hh, by simpa using hcs, fun i u hu _ => ?_⟩
          rw [← htk, List.getElem?_take] at hu
          split at hu
          · simpa using hu
          · cases hu
      · rw [if_neg (by simp)]
        rw [List.getElem?_replicate] at hx hu
        split at hx
        · rename_i hi
          rw [if_pos hi] at hu
          cases hx
          cases hu
          exact .inl ⟨⟨none, rfl⟩, rfl⟩
        · cases hx
theorem does_make (h : RelX ρ own c s a w) {t : TypeId} {pl : Bool} {d : Nat} {x y : PV} {K : PV → St → Option R} (hK : evMake P pl s d t x y K = some r) {vx vy : Value} (hx : VR ρ own w x vx) (hy : VR ρ own w y vy) :
    Does P c a w (do pure (.value (← Instr.makeSlice t vx vy))) K r := by
  unfold evMake at hK
  split at hK
  · rename_i e τ b k n k' m he
    obtain ⟨i, z, hu, hi, hz, hs, hby, hzs, h0, hb0, hzt⟩ := elemT_info he
    rw [hzt] at hK
    simp only at hK
    rw [VR] at hx hy
    subst hx hy
    split at hK
    · rename_i x0 hun
      obtain ⟨u, r', e1, hrd, hr'⟩ := uncells_sound hun (VRs_const (ρ := ρ) (own := own) (w := w) z)
      rw [VRs] at hr'
      subst hr'
      rw [List.append_nil] at e1
      have hel : ∀ own' w1, Agree own w w1 → ∀ n, Elems own' w1 τ (List.replicate n x0) (madeCells z.cells (n * τ.sz)).toList := by
        intro own' w1 hag n
        obtain ⟨u, r', e1, hrd, hr'⟩ := uncells_sound hun (VRs_const (ρ := ρ) (own := own') (w := w1) z)
        rw [VRs] at hr'
        subst hr'
        rw [List.append_nil] at e1
        rw [← e1] at hrd
        exact elems_made hrd n
      split at hK
      · rename_i hnm
        subst hnm
        split at hK
        · rename_i hn0
          split at hK
          · rename_i hlim
            have hnn : n = (n.toNat : Int) := by omega
            have hle : n.toNat ≤ 140737488355328 := Nat.le_trans (Nat.le_mul_of_pos_right _ hb0) hlim
            have := run_make_full (P := P) w 0 t e i z τ.sz hu hi hz hs k k' n.toNat (by rw [hby, Nat.mul_comm]; omega) (by simp only [maxLen]; omega) (Nat.zero_le _)
            rw [← hnn] at this
            split at hK
            · exact does_made h (by simp) (fun own' w1 hag => hel own' w1 hag _) this hK
            cases τ with
            | list o e2 t2 =>
              obtain ⟨k1, k2⟩ := nil_zero w hun
              subst k1
              have hz1 : z.cells = #[.slice none 0 0] := Array.ext' k2
              rw [show (Ty.list o e2 t2).sz = 1 from rfl, Nat.mul_one, hz1, made_nil] at this
              exact does_made_deep h this hK
            | _ => exact does_made h (by simp) (fun own' w1 hag => hel own' w1 hag _) this hK
          · cases hK
        · cases hK
      · split at hK
        · cases hK
        split at hK
        · rename_i hn0
          subst hn0
          split at hK
          · rename_i hm0
            split at hK
            · rename_i hlim
              have hmm : m = (m.toNat : Int) := by omega
              have hle : m.toNat ≤ 140737488355328 := Nat.le_trans (Nat.le_mul_of_pos_right _ hb0) hlim
              have := run_make_own (P := P) w 0 t e i z τ.sz hu hi hz hs k k' m.toNat (by rw [hby, Nat.mul_comm]; omega) (by simp only [maxLen]; omega) (Nat.zero_le _)
              rw [← hmm] at this
              exact does_made h (by simp) (fun own' w1 hag => Elems.nil) this hK
            · cases hK
          · cases hK
        · cases hK
    · cases hK
  · cases hK
theorem does_append_zeros (h : RelX ρ own c s a w) {t tn ty e : TypeId} {τ : Ty} {b d : Nat} (he : elemT P t = some (e, τ, b)) {kn : IntKind} (htn : P.underlying tn = some (.int kn)) {zp : PV} (hzp : zeroT P e = some zp) {x0 : τ.den} (hx0 : uncells τ (cellsOfPV zp) = some (x0, [])) (k : IntKind) (n : Nat) (hn : 0 < n) (hb : n * b ≤ 140737488355328)
    {K : PV → St → Option R} (hK : K (.own d) (s.add d (.row e τ (List.replicate n x0))) = some r) : Does P c a w (do pure (.value (← Builtin.append_ #[t, tn] ty #[.slice none 0 0, .int k n]))) K r := by
  obtain ⟨i, z, hu, hi, hz, hs, hby, hzs, h0, hb0, hzt⟩ := elemT_info he
  rw [hzt] at hzp
  cases hzp
  have hml : n ≤ 140737488355328 := Nat.le_trans (Nat.le_mul_of_pos_right _ hb0) hb
  have hmx : n ≤ maxLen := by simp only [maxLen]; omega
  have hel : ∀ own' w1, Elems own' w1 τ (List.replicate n x0) (madeCells z.cells (n * τ.sz)).toList := by
    intro own' w1
    obtain ⟨u, r', e1, hrd, hr'⟩ := uncells_sound hx0 (VRs_const (ρ := ρ) (own := own') (w := w1) z)
    rw [VRs] at hr'
    subst hr'
    rw [List.append_nil] at e1
    rw [← e1] at hrd
    exact elems_made hrd n
  have hrun := Lib.run_append_nil_zeros (P := P) w t tn ty e i z k kn hu htn hi hz n hn (by rw [hs]; exact h0) (by omega) (by rw [hby]; omega)
  have hzc : Builtin.zeroCells z.cells n = madeCells z.cells (n * τ.sz) := by rw [← hzs]; rfl
  rw [hzc] at hrun
  have hge := grownCap_ge w n 0 e
  have hcm := grownCap_le_maxLen w n 0 e hmx
  have hag : Agree own w (w.drew.alloc (.cells (madeCells z.cells (n * τ.sz) ++ Builtin.zeroCells z.cells (grownCap w n 0 e - n)) e)) := Agree.alloc own w.drew _
  have hben : Beneath (fun _ => False) w (w.drew.alloc (.cells (madeCells z.cells (n * τ.sz) ++ Builtin.zeroCells z.cells (grownCap w n 0 e - n)) e)) := ⟨rfl, rfl, rfl, hag.1, fun g hg _ => alloc_old w.drew _ g hg⟩
  refine Does.value hK (h.fresh d (.slice (some ⟨w.heap.size, 0, none⟩) n (grownCap w n 0 e)) _ (fun g hg => alloc_old w.drew _ g hg) ?_ hben (fun g q => ?_) ?_) (v := .slice (some ⟨w.heap.size, 0, none⟩) n (grownCap w n 0 e)) VR_own_new hrun
  · rw [alloc_size]
    exact Nat.lt_succ_self _
  · cases hg : grownCap w n 0 e with
    | zero => rw [hg] at q; cases q
    | succ n => rw [hg] at q; exact List.mem_singleton.1 q
  · refine BR.of_elems (us := (madeCells z.cells (n * τ.sz)).toList) (hel _ _) (by rw [upd_same, List.length_replicate]; rfl) (by rw [List.length_replicate]; exact hge) hcm (alloc_new w.drew _) ?_ (by rw [Array.toList_append]; exact List.take_left)
    simp only [Array.size_append, size_madeCells, size_zeroCells, hzs, ← Nat.add_mul]
    congr 1
    omega
theorem VR_opt (hr : RelX ρ own c s a w) (o : Option Operand) : (∀ p, o.map s.ev = some p → ∃ v, o.map a.eval = some v ∧ VR ρ own w p v) ∧ (o.map s.ev = none → o.map a.eval = none) := by
  cases o with
  | none => exact ⟨fun p h => (by cases h), fun _ => rfl⟩
  | some x => exact ⟨fun p h => (by cases h; exact ⟨_, rfl, hr.ev x⟩), fun h => (by cases h)⟩
theorem run_sliceAt_slice {t e : TypeId} {z : Nat} (hu : P.underlying t = some (.slice e)) (hz : sizeT P e = some z) {A : Option Addr} {len cap x y : Nat} {vl vh : Option Value} (hb : (Instr.sliceBounds true len cap vl vh none).run P w = .ok (x, y, cap) w) :
    (Instr.sliceAt t (.slice A len cap) vl vh none).run P w = .ok (.slice (if cap = x then A else A.map (·.add (x * z))) (y - x) (cap - x)) w := by
  simp [Instr.sliceAt, Instr.slice, run_underlying hu, hb, run_sizeOf_of hz]
end
end Go.Proofs.Ytbaekdcacmoniaa.Pv
