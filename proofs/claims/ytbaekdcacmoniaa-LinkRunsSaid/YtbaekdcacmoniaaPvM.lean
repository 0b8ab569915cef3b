/- Maps of plain keys and plain elements. -/
import Derived.Test.YtbaekdcacmoniaaPv12
import Derived.MapKept
namespace Go.Proofs.Ytbaekdcacmoniaa.Pv
open Go Go.RowKit

section
variable {R : Type} {r : R} {ρ : Nat → Value} {own : Nat → Prop} {W0 : World} {c : Cx W0} {w w1 : World} {s : St} {a : Act} {P : Program}
/-- Which kind of type a map's key is of. -/
def KindOf (P : Program) (t : TypeId) (k : Ty) : Prop := (∃ q, P.underlying t = some (.int q) ∧ k = .int q) ∨ (P.underlying t = some .string ∧ k = .str)
theorem keyT_spec {t : TypeId} {k : Ty} (h : keyT P t = some k) : plainK k = true ∧ KindOf P t k := by
  unfold keyT at h
  split at h
  · rename_i q hu
    cases h
    exact ⟨rfl, .inl ⟨_, hu, rfl⟩⟩
  · rename_i hu
    cases h
    exact ⟨rfl, .inr ⟨hu, rfl⟩⟩
  · cases h
theorem valT_spec {t : TypeId} {v : Ty} (h : valT P t = some v) : plainE v = true ∧ ∀ w, (zeroValue t).run P w = .ok (plainV v v.dflt) w := by
  unfold valT at h
  split at h
  · rename_i k k' n hu hz
    split at h
    case isFalse => cases h
    rename_i hk
    split at h
    case isFalse => cases h
    rename_i hn
    cases h
    subst hk hn
    obtain ⟨i, v, h1, h2, h3⟩ := zeroT_info hz
    have h4 := VR_const (ρ := fun _ => undef) (own := fun _ => False) (w := default) v
    rw [← h3, VR] at h4
    subst h4
    exact ⟨rfl, fun w => by simp [zeroValue, typeInfo, h1, h2, plainV, Ty.dflt]⟩
  · rename_i b hu hz
    split at h
    case isFalse => cases h
    rename_i hb
    cases h
    subst hb
    obtain ⟨i, v, h1, h2, h3⟩ := zeroT_info hz
    have h4 := VR_const (ρ := fun _ => undef) (own := fun _ => False) (w := default) v
    rw [← h3, VR] at h4
    subst h4
    exact ⟨rfl, fun w => by simp [zeroValue, typeInfo, h1, h2, plainV, Ty.dflt]⟩
  · cases h
theorem mapT_spec {t : TypeId} {k v : Ty} (h : mapT P t = some (k, v)) : ∃ kt et, P.underlying t = some (.map kt et) ∧ plainK k = true ∧ KindOf P kt k ∧ plainE v = true ∧ ∀ w, (zeroValue et).run P w = .ok (plainV v v.dflt) w := by
  unfold mapT at h
  split at h
  · rename_i kt et hu
    split at h
    · rename_i a b ha hb
      cases h
      exact ⟨kt, et, hu, (keyT_spec ha).1, (keyT_spec ha).2, (valT_spec hb).1, (valT_spec hb).2⟩
    · cases h
  · cases h
theorem plain_cells : ∀ {t : Ty} (x : t.den), (plainK t = true ∨ plainE t = true) → ∃ p, cells t x = [p] ∧ VR ρ own w p (plainV t x)
  | .int k, n, _ => ⟨.int k n, rfl, by rw [VR]; rfl⟩
  | .bool, b, _ => ⟨.bool b, rfl, by rw [VR]; rfl⟩
  | .str, b, _ => ⟨.str b, rfl, by rw [VR]; rfl⟩
  | .list _ _ _, _, h => by rcases h with h | h <;> cases h
  | .prod _ _, _, h => by rcases h with h | h <;> cases h
  | .unit, _, h => by rcases h with h | h <;> cases h
  | .tag _ _ _, _, h => by rcases h with h | h <;> cases h
theorem plain_read {t : Ty} (ht : plainK t = true ∨ plainE t = true) {p : PV} {x : t.den} {v : Value} (h : uncells t [p] = some (x, [])) (hv : VR ρ own w p v) : v = plainV t x := by
  cases t with
  | int k =>
    have := unInt_sound h
    cases this
    rw [VR] at hv
    exact hv
  | bool =>
    have := unBool_sound h
    cases this
    rw [VR] at hv
    exact hv
  | str =>
    have := unStr_sound h
    cases this
    rw [VR] at hv
    exact hv
  | list _ _ _ => rcases ht with h | h <;> cases h
  | prod _ _ => rcases ht with h | h <;> cases h
  | unit => rcases ht with h | h <;> cases h
  | tag _ _ _ => rcases ht with h | h <;> cases h
theorem sameNow_key {t : TypeId} {k : Ty} (h : KindOf P t k) : ∃ d, P.underlying t = some d ∧ ∀ x y : k.den, Instr.sameNow d (plainV k x) (plainV k y) = some (keyEq k x y) := by
  rcases h with ⟨q, hu, rfl⟩ | ⟨hu, rfl⟩
  · exact ⟨_, hu, fun x y => by simp [Instr.sameNow, plainV, keyEq]⟩
  · exact ⟨_, hu, fun x y => by simp [Instr.sameNow, plainV, keyEq, beq_toListBytes]⟩
theorem keyEq_plain : ∀ {k : Ty} {x y : k.den}, keyEq k x y = true → plainV k x = plainV k y
  | .int q, x, y, h => by
    have : x = y := by simpa [keyEq] using h
    rw [this]
  | .str, x, y, h => by
    have h2 : (x == y) = true := by rw [beq_toListBytes]; exact h
    have : x = y := by
      have h3 : (x.data == y.data) = true := h2
      exact ByteArray.ext (by simpa using h3)
    rw [this]
  | .bool, _, _, h => by cases h
  | .list _ _ _, _, _, h => by cases h
  | .prod _ _, _, _, h => by cases h
  | .unit, _, _, h => by cases h
  | .tag _ _ _, _, _, h => by cases h
theorem findNow_look {d : TypeDesc} {k v : Ty} {x : k.den} (hd : ∀ y : k.den, Instr.sameNow d (plainV k x) (plainV k y) = some (keyEq k x y)) : ∀ (l : List (k.den × v.den)) (es : List MapEntry) (i : Nat), MapR k v l es →
    (lookM k v x l = none ∧ Instr.findNow d (plainV k x) es i = some none ∧ ∀ (y : v.den) (e : MapEntry), e.key = plainV k x → e.val = plainV v y → MapR k v (updM k v x y l) (es ++ [e])) ∨
    (∃ y j e, lookM k v x l = some y ∧ Instr.findNow d (plainV k x) es i = some (some (i + j, plainV v y)) ∧ es[j]? = some e ∧ e.key = plainV k x ∧ ∀ (z : v.den) (e' : MapEntry), e'.key = plainV k x → e'.val = plainV v z → MapR k v (updM k v x z l) (es.set j e'))
  | [], es, i, h => by
    rw [MapR] at h
    subst h
    exact .inl ⟨rfl, rfl, fun y e h1 h2 => by rw [updM, MapR]; exact ⟨e, [], rfl, h1, h2, by rw [MapR]⟩⟩
  | p :: l, es, i, h => by
    rw [MapR] at h
    obtain ⟨e, es', rfl, h1, h2, h3⟩ := h
    cases hq : keyEq k x p.1 with
    | true =>
      refine .inr ⟨p.2, 0, e, by rw [lookM, if_pos hq], ?_, rfl, by rw [h1, keyEq_plain hq], fun z e' q1 q2 => ?_⟩
      · rw [Instr.findNow, h1, hd, hq, h2]
        rfl
      · rw [updM, if_pos hq, List.set_cons_zero, MapR]
        exact ⟨e', es', rfl, by rw [q1, keyEq_plain hq], q2, h3⟩
    | false =>
      have hf : Instr.findNow d (plainV k x) (e :: es') i = Instr.findNow d (plainV k x) es' (i + 1) := by rw [Instr.findNow, h1, hd, hq]
      rcases findNow_look hd l es' (i + 1) h3 with ⟨q1, q2, q3⟩ | ⟨y, j, e0, q1, q2, q3, q4, q5⟩
      · refine .inl ⟨by rw [lookM, if_neg (by rw [hq]; exact Bool.false_ne_true), q1], by rw [hf, q2], fun y e0 k1 k2 => ?_⟩
        rw [updM, if_neg (by rw [hq]; exact Bool.false_ne_true), List.cons_append, MapR]
        exact ⟨e, _, rfl, h1, h2, q3 y e0 k1 k2⟩
      · refine .inr ⟨y, j + 1, e0, by rw [lookM, if_neg (by rw [hq]; exact Bool.false_ne_true), q1], by rw [hf, q2, Nat.add_assoc, Nat.add_comm 1 j], q3, q4, fun z e' k1 k2 => ?_⟩
        rw [updM, if_neg (by rw [hq]; exact Bool.false_ne_true), List.set_cons_succ, MapR]
        exact ⟨e, _, rfl, h1, h2, q5 z e' k1 k2⟩
theorem isKey_plain {t : TypeId} {k : Ty} (h : KindOf P t k) (x : k.den) (b : Bool) (w : World) : (Instr.checkKey b 10000 t (plainV k x)).run P w = .ok () w := by
  rcases h with ⟨q, hu, rfl⟩ | ⟨hu, rfl⟩
  · exact Go.MapKept.run_checkKey hu (by simp [Go.MapKept.IsKey, plainV]) b 9999
  · exact Go.MapKept.run_checkKey hu (by simp [Go.MapKept.IsKey, plainV]) b 9999
theorem run_lookup {t : TypeId} {x i : PV} {comma : Bool} {K : PV → Option R} (h : evLookup P s t x i comma K = some r) (hr : RelX ρ own c s a w) {vx vi : Value} (hx : VR ρ own w x vx) (hi : VR ρ own w i vi) :
    ∃ p v, K p = some r ∧ VR ρ own w p v ∧ (Instr.lookup t vx vi comma).run P w = .ok v w := by
  unfold evLookup at h
  split at h
  case h_2 => cases h
  rename_i id
  split at h
  case h_2 => cases h
  rename_i k v l hl
  split at h
  case isFalse => cases h
  rename_i hm
  split at h
  case h_2 => cases h
  rename_i y hy
  obtain ⟨kt, et, hu, hk, hkind, hv, hz⟩ := mapT_spec hm
  obtain ⟨g, es, cl, e, hh, _, _, hrel⟩ := hr.sto id _ hl
  rw [VR] at hx
  rw [e] at hx
  obtain ⟨rfl, _⟩ := hx
  have ei := plain_read (.inl hk) hy hi
  subst ei
  obtain ⟨d, hd, hsame⟩ := sameNow_key hkind
  have hfin : ∀ (u : Value) (ok : Bool), (Instr.findKey kt (plainV k y) es.toList).run P w = .ok (if ok = true then some (0, u) else none) w ∨ True := fun _ _ => .inr trivial
  have hrun : ∀ (o : Option (Nat × Value)), Instr.findNow d (plainV k y) es.toList 0 = some o → (Instr.lookup t (.map (some g)) (plainV k y) comma).run P w = .ok (if comma = true then .tuple #[(match o with | some (_, z) => z | none => plainV v v.dflt), .bool o.isSome] else (match o with | some (_, z) => z | none => plainV v v.dflt)) w := by
    intro o ho
    unfold Instr.lookup
    cases o with
    | none => simp [run_underlying hu, Go.MapKept.run_getObj_map hh, isKey_plain hkind, Go.MapKept.run_findKey hd ho, hz]
    | some o => obtain ⟨j, z⟩ := o; simp [run_underlying hu, Go.MapKept.run_getObj_map hh, isKey_plain hkind, Go.MapKept.run_findKey hd ho]
  obtain ⟨q, hq, hqv⟩ := plain_cells (ρ := ρ) (own := own) (w := w) ((lookM k v y l).getD v.dflt) (.inr hv)
  rw [hq] at h
  have done : ∀ o : Option (Nat × Value), Instr.findNow d (plainV k y) es.toList 0 = some o → (match o with | some (_, z) => z | none => plainV v v.dflt) = plainV v ((lookM k v y l).getD v.dflt) → o.isSome = (lookM k v y l).isSome → ∃ p u, K p = some r ∧ VR ρ own w p u ∧ (Instr.lookup t (.map (some g)) (plainV k y) comma).run P w = .ok u w := by
    intro o ho h1 h2
    have := hrun o ho
    rw [h1, h2] at this
    cases comma with
    | true =>
      rw [if_pos rfl] at h this
      refine ⟨_, _, h, ?_, this⟩
      rw [VR]
      refine ⟨_, rfl, ?_⟩
      rw [List.singleton_append, VRs]
      refine ⟨_, _, rfl, hqv, ?_⟩
      rw [VRs]
      refine ⟨_, _, rfl, by rw [VR], ?_⟩
      rw [VRs]
    | false =>
      rw [if_neg (by decide)] at h this
      exact ⟨_, _, h, hqv, this⟩
  rcases findNow_look (fun z => hsame y z) l es.toList 0 hrel with ⟨q1, q2, _⟩ | ⟨z, j, e0, q1, q2, _⟩
  · exact done none q2 (by rw [q1]; rfl) (by rw [q1]; rfl)
  · exact done _ q2 (by rw [q1]; rfl) (by rw [q1]; rfl)
theorem setObj_other {w : World} {g : Nat} {o : Obj} {k : Nat} (hk : k ≠ g) : ({ w with heap := w.heap.setIfInBounds g o } : World).heap[k]? = w.heap[k]? := by
  show (w.heap.setIfInBounds g o)[k]? = _
  rw [Array.getElem?_setIfInBounds, if_neg (fun e => hk e.symm)]
theorem does_mapUpdate (h : RelX ρ own c s a w) {t : TypeId} {x i y : PV} {K : PV → St → Option R} (hK : evMapUpdate P s t x i y (fun s' => K .undef s') = some r) {vx vi vy : Value} (hx : VR ρ own w x vx) (hi : VR ρ own w i vi) (hy : VR ρ own w y vy) :
    Does P c a w (do Instr.mapUpdate t vx vi vy; pure .skip) K r := by
  unfold evMapUpdate at hK
  split at hK
  case h_2 => cases hK
  rename_i id
  split at hK
  case h_2 => cases hK
  rename_i k v l hl
  split at hK
  case isFalse => cases hK
  rename_i hm
  split at hK
  case h_2 => cases hK
  rename_i k0 v0 hk0 hv0
  obtain ⟨kt, et, hu, hk, hkind, hv, hz⟩ := mapT_spec hm
  obtain ⟨g, es, cl, e, hh, h1, h2, hrel⟩ := h.sto id _ hl
  rw [VR] at hx
  rw [e] at hx
  obtain ⟨rfl, _⟩ := hx
  have ei := plain_read (.inl hk) hk0 hi
  have ev := plain_read (.inr hv) hv0 hy
  subst ei ev
  obtain ⟨d, hd, hsame⟩ := sameNow_key hkind
  have hblk : g ∈ blks (ρ id) := in_blk (by rw [e]; rfl)
  have how := h.mine (.inr rfl) hl hblk
  have hlt := h.lo g how.1
  have main : ∀ es' : Array MapEntry, ∀ cl', (Instr.mapUpdate t (.map (some g)) (plainV k k0) (plainV v v0)).run P w = .ok () { w with heap := w.heap.setIfInBounds g (.map es' cl') } → MapR k v (updM k v k0 v0 l) es'.toList →
      Does P c a w (do Instr.mapUpdate t (.map (some g)) (plainV k k0) (plainV v v0); pure .skip) K r := by
    intro es' cl' hrun hrel'
    have hag : Agree own w { w with heap := w.heap.setIfInBounds g (.map es' cl') } := ⟨by simp, fun k _ hk => setObj_other (fun q => hk (q ▸ how.1))⟩
    refine ⟨ρ, own, .undef, undef, _, _, hK, h.turn hl hblk hag ?_ (fun k _ hk => setObj_other hk) ?_, by rw [VR]; trivial, .inr ⟨by simp [hrun], rfl⟩⟩
    · refine h.below.trans (L' := fun k => k = g) ⟨rfl, rfl, rfl, by simp, fun k _ hk => setObj_other hk⟩ (fun k hk q => ?_)
      subst q
      rcases how.2 with q | q
      · omega
      · exact q
    · refine ⟨g, es', cl', e, ?_, h1, h2, hrel'⟩
      show (w.heap.setIfInBounds g _)[g]? = _
      rw [Array.getElem?_setIfInBounds, if_pos rfl, if_pos hlt]
  rcases findNow_look (fun z => hsame k0 z) l es.toList 0 hrel with ⟨q1, q2, q3⟩ | ⟨z, j, e0, q1, q2, q3, q4, q5⟩
  · refine main (es.push ⟨plainV k k0, plainV v v0, cl⟩) (cl + 1) ?_ (by rw [Array.toList_push]; exact q3 _ _ rfl rfl)
    unfold Instr.mapUpdate
    simp [run_underlying hu, Go.MapKept.run_getObj_map hh, isKey_plain hkind, Go.MapKept.run_findKey hd q2, Go.MapKept.run_setObj_map _ hh]
  · have hj : j < es.toList.length := by
      rcases Nat.lt_or_ge j es.toList.length with q | q
      · exact q
      · rw [List.getElem?_eq_none q] at q3; cases q3
    have hj' : es[j]? = some e0 := by rw [← Array.getElem?_toList]; exact q3
    have hsb : Instr.sameBits 10000 (plainV k k0) (plainV k k0) = true := by
      rcases hkind with ⟨q, _, rfl⟩ | ⟨_, rfl⟩
      · simp [Instr.sameBits, plainV]
      · show (k0 == k0) = true
        rw [beq_toListBytes]
        exact beq_self_eq_true _
    refine main (es.modify j fun x => { x with key := plainV k k0, val := plainV v v0 }) cl ?_ ?_
    · unfold Instr.mapUpdate
      rw [Nat.zero_add] at q2
      simp [run_underlying hu, Go.MapKept.run_getObj_map hh, isKey_plain hkind, Go.MapKept.run_findKey hd q2, Go.MapKept.run_setObj_map _ hh, hj', q4, Instr.keyThatStays, hsb]
    · have em : (es.modify j fun x => { x with key := plainV k k0, val := plainV v v0 }).toList = es.toList.set j { e0 with key := plainV k k0, val := plainV v v0 } := by
        apply List.ext_getElem?
        intro n
        rw [Array.getElem?_toList, Array.getElem?_modify, List.getElem?_set]
        by_cases hn : j = n
        · subst hn
          rw [if_pos rfl, if_pos rfl, if_pos hj, hj']
          rfl
        · rw [if_neg hn, if_neg hn, Array.getElem?_toList]
      rw [em]
      exact q5 _ _ rfl rfl
theorem does_makeMap (h : RelX ρ own c s a w) {t : TypeId} {d : Nat} {o : Option Operand} {K : PV → St → Option R} (hK : evMakeMap P s d t (o.map s.ev) K = some r) :
    Does P c a w (do pure (.value (← Instr.makeMap t (o.map a.eval)))) K r := by
  unfold evMakeMap at hK
  split at hK
  case h_2 => cases hK
  rename_i k v hm
  obtain ⟨kt, et, hu, hk, hkind, hv, hz⟩ := mapT_spec hm
  have main : K (.own d) (s.add d (.map k v [])) = some r → (Instr.makeMap t (o.map a.eval)).run P w = .ok (.map (some w.heap.size)) (w.alloc (.map #[] 0)) → Does P c a w (do pure (.value (← Instr.makeMap t (o.map a.eval)))) K r := by
    intro hK hrun
    refine Does.value hK (h.fresh d (.map (some w.heap.size)) _ (fun g hg => alloc_old w _ g hg) (by rw [alloc_size]; omega) (Beneath.alloc _ _ _) (fun g q => List.mem_singleton.1 q) ?_) (v := .map (some w.heap.size)) ?_ hrun
    · exact ⟨w.heap.size, #[], 0, upd_same _ _ _, alloc_new w _, hk, hv, by rw [MapR]⟩
    · exact VR_own_new
  cases o with
  | none => exact main hK (by simp [Instr.makeMap])
  | some o =>
    simp only [Option.map_some] at hK
    split at hK
    · rename_i e; cases e
    · rename_i q n e
      have hv := h.ev o
      rw [Option.some.inj e, VR] at hv
      exact main hK (by simp [Instr.makeMap, hv, run_underlying hu]; rfl)
    · cases hK
end
end Go.Proofs.Ytbaekdcacmoniaa.Pv
