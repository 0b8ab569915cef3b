/- A strings.Builder's methods by their contracts: the state behind each call fits the world behind it. -/
import Derived.Test.YtbaekdcacmoniaaPvO
import Derived.Lib.AppendStr
namespace Go.Proofs.Ytbaekdcacmoniaa.Pv
open Go Go.RowKit
/-- The world behind copyCheck. -/
def checked (w : World) (b : Nat) (p : Value) (w1 : World) : Prop :=
  (p = .pointer (some ⟨b, 0, none⟩) ∧ w1 = w) ∨ (p = .pointer none ∧ w1 = w.setCell ⟨b, 0, none⟩ (.pointer (some ⟨b, 0, none⟩)))
theorem checked_heap {w w1 : World} {b : Nat} {p v : Value} {T : TypeId} (hbk : w.heap[b]? = some (.cells #[p, v] T (0, 0))) (hc : checked w b p w1) : w1.heap[b]? = some (.cells #[.pointer (some ⟨b, 0, none⟩), v] T (0, 0)) := by
  rcases hc with ⟨rfl, rfl⟩ | ⟨rfl, rfl⟩
  · exact hbk
  · simp [World.setCell, Array.getElem?_modify, hbk]
/-- All but block g lies as it lay. -/
structure KeptBut (g : Option Nat) (w w' : World) : Prop where
  os : w'.os = w.os
  tape : w'.tape = w.tape
  output : w'.output = w.output
  size : w.heap.size ≤ w'.heap.size
  block : ∀ k, k < w.heap.size → g ≠ some k → w'.heap[k]? = w.heap[k]?
theorem KeptBut.refl (g : Option Nat) (w : World) : KeptBut g w w := ⟨rfl, rfl, rfl, Nat.le_refl _, fun _ _ _ => rfl⟩
theorem KeptBut.drew {g : Option Nat} {a w : World} (h : KeptBut g a w) : KeptBut g a w.drew := ⟨h.os, h.tape, h.output, h.size, h.block⟩
theorem KeptBut.freeze {g : Nat} {a w : World} (h : KeptBut (some g) a w) (n : Nat) : KeptBut (some g) a (w.freeze ⟨g, 0, none⟩ n) := by
  unfold World.freeze
  split
  · exact h
  · refine ⟨h.os, h.tape, h.output, by simpa using h.size, fun k hk hg => ?_⟩
    simp only [Array.getElem?_modify]
    rw [if_neg (fun e => hg (by rw [← e]))]
    exact h.block k hk hg
theorem KeptBut.alloc {g : Option Nat} {a w : World} (h : KeptBut g a w) (o : Obj) : KeptBut g a (w.alloc o) := by
  refine ⟨h.os, h.tape, h.output, ?_, fun k hk hg => ?_⟩
  · have := h.size
    simp
    omega
  · rw [alloc_old w o k (Nat.lt_of_lt_of_le hk h.size)]
    exact h.block k hk hg

section
variable {ρ : Nat → Value} {own : Nat → Prop} {W0 : World} {c : Cx W0} {w w1 : World} {s : St} {a : Act} {P : Program}
theorem elems_str (b : ByteArray) : Elems own w (.int .u8) (bytesOf b) (Lib.strCells b) := by
  have hl : (bytesOf b).length = b.size := by rw [bytesOf, List.length_map, Array.length_toList]; rfl
  refine ⟨by rw [Lib.strCells_length, hl]; show b.size = b.size * 1; omega, fun i x hx => ?_⟩
  rw [bytesOf, List.getElem?_map] at hx
  obtain ⟨y, hy, rfl⟩ := Option.map_eq_some_iff.1 hx
  have hi : i < b.data.toList.length := by
    rcases Nat.lt_or_ge i b.data.toList.length with q | q
    · exact q
    · simp [List.getElem?_eq_none q] at hy
  rw [RdC.eq_def]
  show ((Lib.strCells b).drop (i * 1)).take 1 = _
  have hc : (Lib.strCells b)[i]? = some (.int .u8 (y.toNat : Int)) := by
    rw [Lib.strCells, List.getElem?_map, hy]
    rfl
  have hlt : i < (Lib.strCells b).length := by
    rcases Nat.lt_or_ge i (Lib.strCells b).length with q | q
    · exact q
    · rw [List.getElem?_eq_none q] at hc; cases hc
  rw [Nat.mul_one, List.drop_eq_getElem_cons hlt, List.take_succ_cons, List.take_zero]
  rw [List.getElem?_eq_getElem hlt] at hc
  rw [Option.some.inj hc]
/-- What an append comes to: its value, the world behind, the state that fits, and what lies as it lay. -/
def AppOk (P : Program) {W0 : World} (c : Cx W0) (a : Act) (w : World) (m : Sem Value) (ρ1 : Nat → Value) (d : Nat) (s2 : St) (gs : List Nat) : Prop :=
  ∃ (v' : Value) (w2 : World) (own' : Nat → Prop), m.run P w = .ok v' w2 ∧ RelX (upd ρ1 d v') own' c s2 a w2 ∧ isAggV v' = false ∧ (∃ ao n cap, v' = .slice ao n cap) ∧ w.heap.size ≤ w2.heap.size ∧ ∀ k, k < w.heap.size → k ∉ gs → w2.heap[k]? = w.heap[k]?
/-- append of a string to a slice without room. -/
theorem does_appstr_new {t ts ty e : TypeId} {b d : Nat} (he : elemT P t = some (e, .int .u8, b)) (hs' : P.underlying ts = some .string) (hb1 : b = 1) (A : Option Addr) (x : ByteArray) (hb : x.size ≤ 140737488355328) {s1 : St} {ρ1 : Nat → Value}
    (h1 : RelX ρ1 own c s1 a w) : AppOk P c a w (Builtin.append_ #[t, ts] ty #[.slice A 0 0, .string x]) ρ1 d (s1.add d (.row e (.int .u8) (bytesOf x))) [] := by
  obtain ⟨i, z, hu, hi, hz, hs, hby, hzs, h0, hb0, _⟩ := elemT_info he
  have hl : (bytesOf x).length = x.size := by rw [bytesOf, List.length_map, Array.length_toList]; rfl
  have hmx : x.size ≤ maxLen := by simp only [maxLen]; omega
  have hi1 : i.size = 1 := hs
  by_cases h00 : x.size = 0
  · have hm0 : bytesOf x = [] := List.eq_nil_of_length_eq_zero (by omega)
    rw [hm0]
    refine ⟨.slice A 0 0, w, own, ?_, h1.add d _ _ (Agree.refl _ _) h1.below (fun _ _ q => q) (fun j x g _ hj hg => ⟨rfl, (h1.owned j x g hj hg).1⟩) h1.lo h1.base (fun j x g _ hj hg q => by cases A <;> cases q) (fun g q => by cases A <;> cases q) (.inl ⟨⟨A, upd_same _ _ _⟩, rfl⟩), rfl, ⟨_, _, _, rfl⟩, Nat.le_refl _, fun _ _ _ => rfl⟩
    have hf := Lib.run_firstCells_string (P := P) w 1 x
    have hn : Lib.strCells x = [] := List.eq_nil_of_length_eq_zero (by rw [Lib.strCells_length]; exact h00)
    rw [h00, hn] at hf
    cases A <;> simp [Builtin.append_, run_underlying hu, run_underlying hs', sizeOf, typeInfo, hi, hi1, Builtin.lenOf, h00, hf, storeCells]
  · have hrun : (Builtin.append_ #[t, ts] ty #[.slice A 0 0, .string x]).run P w = .ok (.slice (some ⟨w.heap.size, 0, none⟩) x.size (grownCap w x.size 0 e)) (w.drew.alloc (.cells ((Lib.strCells x).toArray ++ Builtin.zeroCells z.cells (grownCap w x.size 0 e - x.size)) e)) := by
      cases A with
      | none =>
        have := run_append_nil_string (P := P) w t ts ty e i z hu hs' hi hz x (by omega) (by omega) (by rw [hby, hb1]; omega)
        have e1 : (x.data.map fun b => Value.int .u8 b.toNat) = (Lib.strCells x).toArray := by
          apply Array.ext'
          simp [Lib.strCells]
        rw [e1] at this
        exact this
      | some A =>
        have := Lib.run_append_grow_string (P := P) (w := w) t ts ty e i z hu hs' hi hz A 0 0 [] (by simp) (by simp) x (by omega) (by omega) (by rw [Nat.zero_add, nextslicecap_zero (by omega), hby, hb1]; omega)
        simpa using this
    have hge := grownCap_ge w x.size 0 e
    have hcm := grownCap_le_maxLen w x.size 0 e hmx
    have hag : Agree own w (w.drew.alloc (.cells ((Lib.strCells x).toArray ++ Builtin.zeroCells z.cells (grownCap w x.size 0 e - x.size)) e)) := Agree.alloc own w.drew _
    have hben : Beneath (fun _ => False) w (w.drew.alloc (.cells ((Lib.strCells x).toArray ++ Builtin.zeroCells z.cells (grownCap w x.size 0 e - x.size)) e)) := ⟨rfl, rfl, rfl, hag.1, fun g hg _ => alloc_old w.drew _ g hg⟩
    refine ⟨_, _, _, hrun, h1.fresh d (.slice (some ⟨w.heap.size, 0, none⟩) x.size (grownCap w x.size 0 e)) _ (fun g hg => alloc_old w.drew _ g hg) ?_ hben (fun g q => ?_) ?_, rfl, ⟨_, _, _, rfl⟩, hag.1, fun g hg _ => alloc_old w.drew _ g hg⟩
    · rw [alloc_size]
      exact Nat.lt_succ_self _
    · cases hg : grownCap w x.size 0 e with
      | zero => rw [hg] at q; cases q
      | succ n => rw [hg] at q; exact List.mem_singleton.1 q
    · refine BR.of_elems (g := w.heap.size) (elems_str x) (by rw [upd_same, hl]) (by rw [hl]; exact hge) hcm (alloc_new w.drew _) ?_ (by rw [Array.toList_append]; exact List.take_left)
      simp only [Array.size_append, List.size_toArray, size_zeroCells, hzs, Lib.strCells_length]
      show _ = _ * 1
      have : (Ty.int IntKind.u8).sz = 1 := rfl
      rw [this]
      omega
/-- append of a string to a row of the call's own. -/
theorem does_appstr_own (h : RelX ρ own c s a w) {t ts ty e : TypeId} {b d id : Nat} (he : elemT P t = some (e, .int .u8, b)) (hs' : P.underlying ts = some .string) (hb1 : b = 1) (x : ByteArray) {l : List Int} (hng : gst id = false) (hl : look id s.sto = some (.row e (.int .u8) l)) (hb : l.length + x.size ≤ 140737488355328) :
    AppOk P c a w (Builtin.append_ #[t, ts] ty #[ρ id, .string x]) (upd ρ id undef) d ((s.used id).add d (.row e (.int .u8) (l ++ bytesOf x))) (blks (ρ id)) := by
  obtain ⟨i, z, hu, hi, hz, hs, hby, hzs, h0, hb0, _⟩ := elemT_info he
  have hi1 : i.size = 1 := hs
  have hxl : (bytesOf x).length = x.size := by rw [bytesOf, List.length_map, Array.length_toList]; rfl
  have hused : RelX (upd ρ id undef) own c (s.used id) a w := h.used id undef (Agree.refl _ _) h.below (fun _ _ q => q) (fun j x g _ hj hg => ⟨rfl, (h.owned j x g hj hg).1⟩) h.lo h.base
  have hmx : l.length + x.size ≤ maxLen := by simp only [maxLen]; omega
  rcases (h.sto id _ hl).elems with ⟨rfl, A, e1⟩ | ⟨g, k, cur, us, e1, h1, h2, hh, h3, h4, hel⟩
  · rw [e1, blks_slice0]
    exact does_appstr_new he hs' hb1 A x (by simpa using hb) hused
  · have hblk : g ∈ blks (ρ id) := in_blk (by rw [e1]; rfl)
    have hus : us.length = l.length * 1 := hel.1
    have hsz1 : (Ty.int IntKind.u8).sz = 1 := rfl
    rw [hsz1] at h3 h4
    have hel2 : Elems own w (.int .u8) (bytesOf x) (Lib.strCells x) := elems_str x
    by_cases hroom : l.length + x.size ≤ k + 1
    · have hrun := Lib.run_append_room_string (P := P) (w := w) t ts ty e i hu hs' hi hi1 g l.length (k + 1) cur hh x hroom (by omega)
      rw [← e1] at hrun
      have hag : Agree own w (w.setRow g (cur.toList.take l.length ++ Lib.strCells x ++ cur.toList.drop (l.length + x.size)).toArray) := ⟨by simp, fun q _ hq => setRow_other w g q _ (fun e => hq (e ▸ (h.owned id _ g hl hblk).1))⟩
      refine ⟨_, _, _, hrun, h.renew hl (h.mine (.inl hng) hl hblk) hblk (w1 := w.setRow g (cur.toList.take l.length ++ Lib.strCells x ++ cur.toList.drop (l.length + x.size)).toArray) (by simp) rfl rfl rfl (fun q _ hq => setRow_other w g q _ hq) (v := .slice (some ⟨g, 0, none⟩) (l.length + x.size) (k + 1)) (fun q hq => List.mem_singleton.1 hq) ?_, rfl, ⟨_, _, _, rfl⟩, hag.1, fun q _ hq => setRow_other w g q _ (fun e => hq (e ▸ hblk))⟩
      refine BR.of_elems (us := us ++ Lib.strCells x) ((hel.append hel2).move hag (fun _ _ q => q)) (by rw [upd_same, List.length_append, hxl]) (by rw [List.length_append, hxl]; exact hroom) h2 (setRow_heap w g cur _ e _ hh) ?_ ?_
      · simp only [List.size_toArray, List.length_append, List.length_take, List.length_drop, Array.length_toList, hsz1, Lib.strCells_length]
        omega
      · simp only []
        rw [Nat.mul_one] at h4
        rw [h4]
        exact List.take_left
    · have holds : ∀ j u, us[j]? = some u → w.cell? ((⟨g, 0, none⟩ : Addr).add j) = some u := by
        intro j u hj
        rw [Addr.add_lit, cell_of_block hh]
        rw [← h4, List.getElem?_take] at hj
        split at hj
        · simpa using hj
        · cases hj
      have hrun := Lib.run_append_grow_string (P := P) (w := w) t ts ty e i z hu hs' hi hz ⟨g, 0, none⟩ l.length (k + 1) us (by rw [hi1]; exact hus) holds x (by omega) (by omega) (growslice_fits (by omega) (by rw [hby, hb1]; omega))
      rw [← e1] at hrun
      have hge := grownCap_ge w (l.length + x.size) (k + 1) e
      have hcm := grownCap_le_maxLen w (l.length + x.size) (k + 1) e hmx
      have hag : Agree own w (w.drew.alloc (.cells (us.toArray ++ (Lib.strCells x).toArray ++ Builtin.zeroCells z.cells (grownCap w (l.length + x.size) (k + 1) e - (l.length + x.size))) e)) := Agree.alloc own w.drew _
      have hben : Beneath (fun _ => False) w (w.drew.alloc (.cells (us.toArray ++ (Lib.strCells x).toArray ++ Builtin.zeroCells z.cells (grownCap w (l.length + x.size) (k + 1) e - (l.length + x.size))) e)) := ⟨rfl, rfl, rfl, hag.1, fun q hq _ => alloc_old w.drew _ q hq⟩
      refine ⟨_, _, _, hrun, hused.fresh d (.slice (some ⟨w.heap.size, 0, none⟩) (l.length + x.size) (grownCap w (l.length + x.size) (k + 1) e)) _ (fun q hq => alloc_old w.drew _ q hq) ?_ hben (fun q hq => ?_) ?_, rfl, ⟨_, _, _, rfl⟩, hag.1, fun q hq _ => alloc_old w.drew _ q hq⟩
      · rw [alloc_size]
        exact Nat.lt_succ_self _
      · cases hg : grownCap w (l.length + x.size) (k + 1) e with
        | zero => rw [hg] at hq; cases hq
        | succ n => rw [hg] at hq; exact List.mem_singleton.1 hq
      · refine BR.of_elems (g := w.heap.size) (k := grownCap w (l.length + x.size) (k + 1) e) (us := us ++ Lib.strCells x) ((hel.append hel2).move hag (fun q hq e => e.resolve_right (by omega))) (by rw [upd_same, List.length_append, hxl]) (by rw [List.length_append, hxl]; exact hge) hcm (alloc_new w.drew _) ?_ ?_
        · simp only [Array.size_append, List.size_toArray, size_zeroCells, hzs, hus, Lib.strCells_length, hsz1]
          omega
        · rw [Array.toList_append, Array.toList_append]
          exact List.take_left
end

/-- What is asked of (*strings.Builder).WriteString's code: what it does, by the run of append. -/
def WStrOk (P : Program) (f : FuncId) (T tb ts : TypeId) : Prop :=
  ∀ (b : Nat) (p v : Value) (s : ByteArray) (w w1 w2 : World), (∃ ao n cap, v = .slice ao n cap) → w.heap[b]? = some (.cells #[p, v] T (0, 0)) → checked w b p w1 →
    ∀ (ao : Option Addr) (n cap : Nat), (∀ ty, (Builtin.append_ #[tb, ts] ty #[v, .string s]).run P w1 = .ok (.slice ao n cap) w2) → ∀ v1, w2.heap[b]? = some (.cells #[.pointer (some ⟨b, 0, none⟩), v1] T (0, 0)) →
      Calls P f #[.pointer (some ⟨b, 0, none⟩), .string s] w fun e w' => e = .returned (.tuple #[.int .i64 s.size, .nilIface]) ∧ w' = w2.setCell ⟨b, 1, none⟩ (.slice ao n cap)
section
variable {ρ : Nat → Value} {own : Nat → Prop} {W0 : World} {c : Cx W0} {w w1 : World} {s : St} {a : Act} {P : Program}
theorem set_two {w : World} {b i : Nat} {p v u : Value} {T : TypeId} (hb : w.heap[b]? = some (.cells #[p, v] T (0, 0))) (hi : i = 0 ∨ i = 1) : (w.setCell ⟨b, i, none⟩ u).heap[b]? = some (.cells (if i = 0 then #[u, v] else #[p, u]) T (0, 0)) := by
  rcases hi with rfl | rfl
  · simp [World.setCell, Array.getElem?_modify, hb]
  · simp [World.setCell, Array.getElem?_modify, hb]
theorem agree_set (own : Nat → Prop) (w : World) (b i : Nat) (u : Value) (hb : own b) : Agree own w (w.setCell ⟨b, i, none⟩ u) := ⟨by simp [World.setCell], fun k _ hk => heap_setCell_other w ⟨b, i, none⟩ k u (fun e => hk (e ▸ hb))⟩
theorem beneath_set {W0 : World} {c : Cx W0} {w : World} (h : Beneath c.L c.w0 w) {b : Nat} (hb : c.w0.heap.size ≤ b ∨ c.L b) (i : Nat) (u : Value) : Beneath c.L c.w0 (w.setCell ⟨b, i, none⟩ u) := by
  refine h.trans (L' := fun k => k = b) ⟨rfl, rfl, rfl, by simp [World.setCell], fun k _ hk => heap_setCell_other w ⟨b, i, none⟩ k u hk⟩ (fun k hk e => ?_)
  subst e
  rcases hb with q | q
  · omega
  · exact q
/-- The builder's own address, laid in. -/
theorem bld_self (h : RelX ρ own c s a w) {id : Nat} {T : TypeId} {c0 c1 : PV} (hl : look id s.sto = some (.box T [c0, c1])) (h0 : bptr id c0 = true) :
    ∃ (g : Nat) (p v : Value) (w1 : World), ρ id = .pointer (some ⟨g, 0, none⟩) ∧ w.heap[g]? = some (.cells #[p, v] T (0, 0)) ∧ VR ρ own w1 c1 v ∧ checked w g p w1 ∧ RelX ρ own c { s with sto := setb id (.box T [.ref id 0, c1]) s.sto } a w1 := by
  obtain ⟨g, vs, e, hh, hv⟩ := h.sto id _ hl
  rw [VRs] at hv
  obtain ⟨p, r, e1, hp, hv⟩ := hv
  rw [VRs] at hv
  obtain ⟨v, r', e2, hvv, hv⟩ := hv
  rw [VRs] at hv
  subst hv
  subst e2
  have evs : vs = #[p, v] := by
    apply Array.ext'
    rw [e1]
  subst evs
  have hblk : g ∈ blks (ρ id) := in_blk (by rw [e]; rfl)
  have how := h.mine (.inr rfl) hl hblk
  have vself : ∀ w', VR ρ own w' (.ref id 0) (.pointer (some ⟨g, 0, none⟩)) := fun w' => by
    rw [VR]
    exact ⟨g, e, rfl⟩
  have fin : ∀ (w1 : World), checked w g p w1 → Agree own w w1 → Beneath c.L c.w0 w1 → (∀ k, k < w.heap.size → k ≠ g → w1.heap[k]? = w.heap[k]?) →
      ∃ (g : Nat) (p v : Value) (w1 : World), ρ id = .pointer (some ⟨g, 0, none⟩) ∧ w.heap[g]? = some (.cells #[p, v] T (0, 0)) ∧ VR ρ own w1 c1 v ∧ checked w g p w1 ∧ RelX ρ own c { s with sto := setb id (.box T [.ref id 0, c1]) s.sto } a w1 := by
    intro w1 hc hag hbe hk
    have hv1 : VR ρ own w1 c1 v := VR.move hag (fun _ _ q => q) (fun _ _ => rfl) hvv
    refine ⟨g, p, v, w1, e, hh, hv1, hc, h.turn hl hblk hag hbe hk ⟨g, #[.pointer (some ⟨g, 0, none⟩), v], e, checked_heap hh hc, ?_⟩⟩
    show VRs _ _ _ _ [_, _]
    rw [VRs]
    refine ⟨_, _, rfl, vself w1, ?_⟩
    rw [VRs]
    refine ⟨_, _, rfl, hv1, ?_⟩
    rw [VRs]
  unfold bptr at h0
  split at h0
  · rw [VR] at hp
    subst hp
    exact fin _ (.inr ⟨rfl, rfl⟩) (agree_set own w g 0 _ how.1) (beneath_set h.below how.2 0 _) (fun k _ hk => heap_setCell_other w ⟨g, 0, none⟩ k _ hk)
  · rename_i j
    have hj : j = id := by simpa using h0
    subst hj
    rw [VR] at hp
    obtain ⟨g', e', rfl⟩ := hp
    rw [e] at e'
    cases e'
    exact fin w (.inl ⟨rfl, rfl⟩) (Agree.refl _ _) h.below (fun _ _ _ => rfl)
  · cases h0
theorem look_add_box {sA : St} {id L : Nat} {T : TypeId} {cs : List PV} {b : Blk} (hne : id ≠ L) (h : look id sA.sto = some (.box T cs)) : look id (sA.add L b).sto = some (.box T (forgetL L cs)) := by
  show look id ((L, b) :: dropb L (forgetB L sA.sto)) = _
  rw [look_cons_ne _ _ (fun q => hne q.symm), look_dropb, if_neg hne, look_forgetB, h]
  rfl
theorem look_used_box {s : St} {id j : Nat} {T : TypeId} {cs : List PV} (hne : id ≠ j) (h : look id s.sto = some (.box T cs)) : look id (s.used j).sto = some (.box T (forgetL j cs)) := by
  show look id (dropb j (forgetB j s.sto)) = _
  rw [look_dropb, if_neg hne, look_forgetB, h]
  rfl
theorem wstr_rel (h : RelX ρ own c s a w) {f id L : Nat} {T tb ts e : TypeId} {c0 c1 : PV} (hl : look id s.sto = some (.box T [c0, c1])) (h0 : bptr id c0 = true) (he : elemT P tb = some (e, .int .u8, 1)) (hts : P.underlying ts = some .string) (hf : WStrOk P f T tb ts) (hL : id ≠ L) (x : ByteArray) (l : List Int) (sA : St)
    (hA : (c1 = .nils ∧ l = [] ∧ sA = { s with sto := setb id (.box T [.ref id 0, c1]) s.sto }) ∨ ∃ j, c1 = .own j ∧ j ≠ id ∧ gst j = false ∧ look j s.sto = some (.row e (.int .u8) l) ∧ sA = ({ s with sto := setb id (.box T [.ref id 0, c1]) s.sto } : St).used j) (hb : l.length + x.size ≤ 140737488355328) :
    ∃ (g : Nat) (ρ' : Nat → Value) (own' : Nat → Prop) (w' : World), ρ id = .pointer (some ⟨g, 0, none⟩) ∧ RelX ρ' own' c (sA.built id L e (l ++ bytesOf x)) a w' ∧ Calls P f #[.pointer (some ⟨g, 0, none⟩), .string x] w fun e w'' => e = .returned (.tuple #[.int .i64 x.size, .nilIface]) ∧ w'' = w' := by
  obtain ⟨g, p, v, w1, e1, hh, hv, hc, h1⟩ := bld_self h hl h0
  have hself : look id ({ s with sto := setb id (.box T [.ref id 0, c1]) s.sto } : St).sto = some (.box T [.ref id 0, c1]) := by
    show look id (setb id _ s.sto) = _
    rw [look_set, if_pos rfl, hl]
    rfl
  have hg1 := checked_heap hh hc
  have hblk : g ∈ blks (ρ id) := in_blk (by rw [e1]; rfl)
  have main : ∀ (gs : List Nat) (ρ1 : Nat → Value) (T' : List PV), (∀ ty, AppOk P c a w1 (Builtin.append_ #[tb, ts] ty #[v, .string x]) ρ1 L (sA.add L (.row e (.int .u8) (l ++ bytesOf x))) gs) → g ∉ gs → ρ1 id = ρ id → look id sA.sto = some (.box T T') → (∃ ao n cap, v = .slice ao n cap) →
      ∃ (g : Nat) (ρ' : Nat → Value) (own' : Nat → Prop) (w' : World), ρ id = .pointer (some ⟨g, 0, none⟩) ∧ RelX ρ' own' c (sA.built id L e (l ++ bytesOf x)) a w' ∧ Calls P f #[.pointer (some ⟨g, 0, none⟩), .string x] w fun e w'' => e = .returned (.tuple #[.int .i64 x.size, .nilIface]) ∧ w'' = w' := by
    intro gs ρ1 T' hap hng hr1 hlA hvs
    obtain ⟨v', w2, own', hrun, h2, hagg, ⟨ao, n, cap, hv'⟩, hsz, hfr⟩ := hap tb
    have hrun' : ∀ ty, (Builtin.append_ #[tb, ts] ty #[v, .string x]).run P w1 = .ok v' w2 := fun ty => hrun
    have hlt : g < w1.heap.size := by
      rcases Nat.lt_or_ge g w1.heap.size with q | q
      · exact q
      · simp [Array.getElem?_eq_none q] at hg1
    have hg2 : w2.heap[g]? = some (.cells #[.pointer (some ⟨g, 0, none⟩), v] T (0, 0)) := by rw [hfr g hlt hng]; exact hg1
    have hl2 := look_add_box (b := .row e (.int .u8) (l ++ bytesOf x)) hL hlA
    have er : upd ρ1 L v' id = .pointer (some ⟨g, 0, none⟩) := by rw [upd_ne _ _ hL, hr1, e1]
    have hblk2 : g ∈ blks (upd ρ1 L v' id) := in_blk (by rw [er]; rfl)
    have how2 := h2.mine (.inr rfl) hl2 hblk2
    subst hv'
    refine ⟨g, upd ρ1 L (.slice ao n cap), own', w2.setCell ⟨g, 1, none⟩ (.slice ao n cap), e1, ?_, hf g p v x w w1 w2 hvs hh hc ao n cap hrun' v hg2⟩
    have hsb : (sA.built id L e (l ++ bytesOf x)) = { (sA.add L (.row e (.int .u8) (l ++ bytesOf x))) with sto := setb id (.box T [.ref id 0, .own L]) (sA.add L (.row e (.int .u8) (l ++ bytesOf x))).sto } := by
      unfold St.built St.setBox
      rw [hl2]
    rw [hsb]
    refine h2.turn hl2 hblk2 (agree_set own' w2 g 1 _ how2.1) (beneath_set h2.below how2.2 1 _) (fun k _ hk => heap_setCell_other w2 ⟨g, 1, none⟩ k _ hk) ⟨g, #[.pointer (some ⟨g, 0, none⟩), .slice ao n cap], er, set_two hg2 (.inr rfl), ?_⟩
    show VRs _ _ _ _ [_, _]
    rw [VRs]
    refine ⟨_, _, rfl, ?_, ?_⟩
    · rw [VR]
      exact ⟨g, er, rfl⟩
    · rw [VRs]
      refine ⟨_, _, rfl, ?_, ?_⟩
      · exact VR_own_new rfl
      · rw [VRs]
  rcases hA with ⟨rfl, rfl, rfl⟩ | ⟨j, rfl, hj, hgj, hlj, rfl⟩
  · rw [VR] at hv
    subst hv
    refine main [] ρ [.ref id 0, .nils] (fun ty => ?_) (by simp) rfl hself ⟨_, _, _, rfl⟩
    rw [List.nil_append]
    exact does_appstr_new he hts rfl none x (by simpa using hb) h1
  · rw [VR] at hv
    obtain ⟨rfl, _⟩ := hv
    have hlj1 : look j ({ s with sto := setb id (.box T [.ref id 0, .own j]) s.sto } : St).sto = some (.row e (.int .u8) l) := by
      show look j (setb id _ s.sto) = _
      rw [look_set, if_neg hj]
      exact hlj
    refine main (blks (ρ j)) (upd ρ j undef) _ (fun ty => does_appstr_own h1 he hts rfl x hgj hlj1 hb) (fun q => hj (h.apart j id _ _ g hlj hl q hblk)) (upd_ne _ _ (fun q => hj q.symm)) (look_used_box (fun q => hj q.symm) hself) ?_
    rcases h.sto j _ hlj with ⟨⟨A, q⟩, _⟩ | ⟨g', k, vs, q, _⟩
    · exact ⟨_, _, _, q⟩
    · exact ⟨_, _, _, q⟩
end
section
variable {ρ : Nat → Value} {own : Nat → Prop} {W0 : World} {c : Cx W0} {w w1 : World} {s : St} {a : Act} {P : Program}
/-- append of elements that lie somewhere to a slice without room. -/
theorem does_appel_new {t ty e : TypeId} {τ : Ty} {b d : Nat} (he : elemT P t = some (e, τ, b)) (A : Option Addr) {m : List τ.den} {news : List Value} {b0 : Addr} {k : Nat} (hel : Elems own w τ m news) (hcell : ∀ (j : Nat) (v : Value), news[j]? = some v → w.cell? (b0.add j) = some v) (h00 : m.length ≠ 0) (hb : m.length * b ≤ 140737488355328) {s1 : St} {ρ1 : Nat → Value}
    (h1 : RelX ρ1 own c s1 a w) : AppOk P c a w (Builtin.append_ #[t, t] ty #[.slice A 0 0, .slice (some b0) m.length k]) ρ1 d (s1.add d (.row e τ m)) [] := by
  obtain ⟨i, z, hu, hi, hz, hs, hby, hzs, h0, hb0, _⟩ := elemT_info he
  have hml : m.length ≤ 140737488355328 := Nat.le_trans (Nat.le_mul_of_pos_right _ hb0) hb
  have hmx : m.length ≤ maxLen := by simp only [maxLen]; omega
  have hnl : news.length = m.length * i.size := by rw [hs]; exact hel.1
  have hrun : (Builtin.append_ #[t, t] ty #[.slice A 0 0, .slice (some b0) m.length k]).run P w = .ok (.slice (some ⟨w.heap.size, 0, none⟩) m.length (grownCap w m.length 0 e)) (w.drew.alloc (.cells (news.toArray ++ Builtin.zeroCells z.cells (grownCap w m.length 0 e - m.length)) e)) := by
    cases A with
    | none => exact run_append_nil w t ty e i z hu hi hz b0 m.length k news hnl hcell (by omega) (by omega) (by rw [hby]; omega)
    | some A =>
      have := run_append_grow (P := P) w t ty e i z hu hi hz A 0 0 [] (by simp) (by simp) b0 m.length k news hnl hcell (by omega) (by omega) (by rw [Nat.zero_add, nextslicecap_zero (by omega), hby]; omega)
      simpa using this
  have hge := grownCap_ge w m.length 0 e
  have hcm := grownCap_le_maxLen w m.length 0 e hmx
  have hag : Agree own w (w.drew.alloc (.cells (news.toArray ++ Builtin.zeroCells z.cells (grownCap w m.length 0 e - m.length)) e)) := Agree.alloc own w.drew _
  have hben : Beneath (fun _ => False) w (w.drew.alloc (.cells (news.toArray ++ Builtin.zeroCells z.cells (grownCap w m.length 0 e - m.length)) e)) := ⟨rfl, rfl, rfl, hag.1, fun g hg _ => alloc_old w.drew _ g hg⟩
  refine ⟨_, _, _, hrun, h1.fresh d (.slice (some ⟨w.heap.size, 0, none⟩) m.length (grownCap w m.length 0 e)) _ (fun g hg => alloc_old w.drew _ g hg) ?_ hben (fun g q => ?_) ?_, rfl, ⟨_, _, _, rfl⟩, hag.1, fun g hg _ => alloc_old w.drew _ g hg⟩
  · rw [alloc_size]
    exact Nat.lt_succ_self _
  · cases hg : grownCap w m.length 0 e with
    | zero => rw [hg] at q; cases q
    | succ n => rw [hg] at q; exact List.mem_singleton.1 q
  · refine BR.of_elems (hel.move hag (fun g hg q => q.resolve_right (by omega))) (upd_same _ _ _) hge hcm (alloc_new w.drew _) ?_ (by rw [Array.toList_append]; exact List.take_left)
    simp only [Array.size_append, List.size_toArray, size_zeroCells, hzs, hel.1, ← Nat.add_mul]
    congr 1
    omega
/-- append of elements that lie somewhere to a row of the call's own. -/
theorem does_appel_own (h : RelX ρ own c s a w) {t ty e : TypeId} {τ : Ty} {b d id : Nat} (he : elemT P t = some (e, τ, b)) {l m : List τ.den} (hng : gst id = false) (hl : look id s.sto = some (.row e τ l)) {news : List Value} {b0 : Addr} {k' : Nat} (hel2 : Elems own w τ m news) (hcell : ∀ (j : Nat) (v : Value), news[j]? = some v → w.cell? (b0.add j) = some v) (h00 : m.length ≠ 0) (hb : (l.length + m.length) * b ≤ 140737488355328) :
    AppOk P c a w (Builtin.append_ #[t, t] ty #[ρ id, .slice (some b0) m.length k']) (upd ρ id undef) d ((s.used id).add d (.row e τ (l ++ m))) (blks (ρ id)) := by
  obtain ⟨i, z, hu, hi, hz, hs, hby, hzs, h0, hb0, _⟩ := elemT_info he
  have hused : RelX (upd ρ id undef) own c (s.used id) a w := h.used id undef (Agree.refl _ _) h.below (fun _ _ q => q) (fun j x g _ hj hg => ⟨rfl, (h.owned j x g hj hg).1⟩) h.lo h.base
  have hml : l.length + m.length ≤ 140737488355328 := Nat.le_trans (Nat.le_mul_of_pos_right _ hb0) hb
  have hmx : l.length + m.length ≤ maxLen := by simp only [maxLen]; omega
  rcases (h.sto id _ hl).elems with ⟨rfl, A, e1⟩ | ⟨g, k, cur, us, e1, h1, h2, hh, h3, h4, hel⟩
  · rw [e1, blks_slice0]
    exact does_appel_new he A hel2 hcell h00 (by simpa using hb) hused
  · have hblk : g ∈ blks (ρ id) := in_blk (by rw [e1]; rfl)
    have hus : us.length = l.length * τ.sz := hel.1
    have hnl : news.length = m.length * i.size := by rw [hs]; exact hel2.1
    have hnl' := hel2.1
    by_cases hroom : l.length + m.length ≤ k + 1
    · have hmul : (l.length + m.length) * τ.sz ≤ (k + 1) * τ.sz := Nat.mul_le_mul_right _ hroom
      rw [Nat.add_mul] at hmul
      have hrun := run_append_room (P := P) w t ty e i hu hi g l.length (k + 1) cur hh b0 m.length k' news hnl hcell (hel2.oneCell h0) hroom (by rw [hs]; omega)
      rw [← e1] at hrun
      have hag : Agree own w (w.setRow g (cur.toList.take (l.length * i.size) ++ news ++ cur.toList.drop (l.length * i.size + news.length)).toArray) := ⟨by simp, fun q _ hq => setRow_other w g q _ (fun e => hq (e ▸ (h.owned id _ g hl hblk).1))⟩
      refine ⟨_, _, _, hrun, h.renew hl (h.mine (.inl hng) hl hblk) hblk (w1 := w.setRow g (cur.toList.take (l.length * i.size) ++ news ++ cur.toList.drop (l.length * i.size + news.length)).toArray) (by simp) rfl rfl rfl (fun q _ hq => setRow_other w g q _ hq) (v := .slice (some ⟨g, 0, none⟩) (l.length + m.length) (k + 1)) (fun q hq => List.mem_singleton.1 hq) ?_, rfl, ⟨_, _, _, rfl⟩, hag.1, fun q _ hq => setRow_other w g q _ (fun e => hq (e ▸ hblk))⟩
      refine BR.of_elems (us := us ++ news) ((hel.append hel2).move hag (fun _ _ q => q)) (by rw [upd_same, List.length_append]) (by simpa using hroom) h2 (setRow_heap w g cur _ e _ hh) ?_ ?_
      · simp only [List.size_toArray, List.length_append, List.length_take, List.length_drop, Array.length_toList, hs]
        omega
      · rw [hs]
        simp only []
        rw [h4]
        exact List.take_left
    · have holds : ∀ j u, us[j]? = some u → w.cell? ((⟨g, 0, none⟩ : Addr).add j) = some u := by
        intro j u hj
        rw [Addr.add_lit, cell_of_block hh]
        rw [← h4, List.getElem?_take] at hj
        split at hj
        · simpa using hj
        · cases hj
      have hrun := run_append_grow (P := P) w t ty e i z hu hi hz ⟨g, 0, none⟩ l.length (k + 1) us (by rw [hs]; exact hus) holds b0 m.length k' news hnl hcell (by omega) (by omega) (growslice_fits (by omega) (by rw [hby]; exact hb))
      rw [← e1] at hrun
      have hge := grownCap_ge w (l.length + m.length) (k + 1) e
      have hcm := grownCap_le_maxLen w (l.length + m.length) (k + 1) e hmx
      have hag : Agree own w (w.drew.alloc (.cells (us.toArray ++ news.toArray ++ Builtin.zeroCells z.cells (grownCap w (l.length + m.length) (k + 1) e - (l.length + m.length))) e)) := Agree.alloc own w.drew _
      have hben : Beneath (fun _ => False) w (w.drew.alloc (.cells (us.toArray ++ news.toArray ++ Builtin.zeroCells z.cells (grownCap w (l.length + m.length) (k + 1) e - (l.length + m.length))) e)) := ⟨rfl, rfl, rfl, hag.1, fun q hq _ => alloc_old w.drew _ q hq⟩
      refine ⟨_, _, _, hrun, hused.fresh d (.slice (some ⟨w.heap.size, 0, none⟩) (l.length + m.length) (grownCap w (l.length + m.length) (k + 1) e)) _ (fun q hq => alloc_old w.drew _ q hq) ?_ hben (fun q hq => ?_) ?_, rfl, ⟨_, _, _, rfl⟩, hag.1, fun q hq _ => alloc_old w.drew _ q hq⟩
      · rw [alloc_size]
        exact Nat.lt_succ_self _
      · cases hg : grownCap w (l.length + m.length) (k + 1) e with
        | zero => rw [hg] at hq; cases hq
        | succ n => rw [hg] at hq; exact List.mem_singleton.1 hq
      · refine BR.of_elems (g := w.heap.size) (k := grownCap w (l.length + m.length) (k + 1) e) (us := us ++ news) ((hel.append hel2).move hag (fun q hq e => e.resolve_right (by omega))) (by rw [upd_same, List.length_append]) (by simpa using hge) hcm (alloc_new w.drew _) ?_ ?_
        · simp only [Array.size_append, List.size_toArray, size_zeroCells, hzs, hus, hnl', ← Nat.add_mul]
          congr 1
          omega
        · rw [Array.toList_append, Array.toList_append]
          exact List.take_left
/-- What is asked of (*strings.Builder).WriteByte's code. -/
def WByteOk (P : Program) (f : FuncId) (T tb e : TypeId) : Prop :=
  ∀ (b : Nat) (p v : Value) (x : Int) (w w1 w2 : World), (∃ ao n cap, v = .slice ao n cap) → w.heap[b]? = some (.cells #[p, v] T (0, 0)) → checked w b p w1 →
    ∀ (ao : Option Addr) (n cap : Nat), (∀ ty, (Builtin.append_ #[tb, tb] ty #[v, .slice (some ⟨w1.heap.size, 0, none⟩) 1 1]).run P (w1.alloc (.cells #[.int .u8 x] e)) = .ok (.slice ao n cap) w2) → ∀ v1, w2.heap[b]? = some (.cells #[.pointer (some ⟨b, 0, none⟩), v1] T (0, 0)) →
      Calls P f #[.pointer (some ⟨b, 0, none⟩), .int .u8 x] w fun e w' => e = .returned .nilIface ∧ w' = w2.setCell ⟨b, 1, none⟩ (.slice ao n cap)
theorem wbyte_rel (h : RelX ρ own c s a w) {f id L : Nat} {T tb e : TypeId} {c0 c1 : PV} (hl : look id s.sto = some (.box T [c0, c1])) (h0 : bptr id c0 = true) (he : elemT P tb = some (e, .int .u8, 1)) (hf : WByteOk P f T tb e) (hL : id ≠ L) (x : Int) (l : List Int) (sA : St)
    (hA : (c1 = .nils ∧ l = [] ∧ sA = { s with sto := setb id (.box T [.ref id 0, c1]) s.sto }) ∨ ∃ j, c1 = .own j ∧ j ≠ id ∧ gst j = false ∧ look j s.sto = some (.row e (.int .u8) l) ∧ sA = ({ s with sto := setb id (.box T [.ref id 0, c1]) s.sto } : St).used j) (hb : l.length + 1 ≤ 140737488355328) :
    ∃ (g : Nat) (ρ' : Nat → Value) (own' : Nat → Prop) (w' : World), ρ id = .pointer (some ⟨g, 0, none⟩) ∧ RelX ρ' own' c (sA.built id L e (l ++ [x])) a w' ∧ Calls P f #[.pointer (some ⟨g, 0, none⟩), .int .u8 x] w fun e w'' => e = .returned .nilIface ∧ w'' = w' := by
  obtain ⟨g, p, v, w1, e1, hh, hv, hc, h1⟩ := bld_self h hl h0
  have hself : look id ({ s with sto := setb id (.box T [.ref id 0, c1]) s.sto } : St).sto = some (.box T [.ref id 0, c1]) := by
    show look id (setb id _ s.sto) = _
    rw [look_set, if_pos rfl, hl]
    rfl
  have hg1 := checked_heap hh hc
  have hblk : g ∈ blks (ρ id) := in_blk (by rw [e1]; rfl)
  have hlt : g < w1.heap.size := by
    rcases Nat.lt_or_ge g w1.heap.size with q | q
    · exact q
    · simp [Array.getElem?_eq_none q] at hg1
  generalize hwa : w1.alloc (.cells #[.int .u8 x] e) = wa at *
  have hga : wa.heap[g]? = some (.cells #[.pointer (some ⟨g, 0, none⟩), v] T (0, 0)) := by rw [← hwa, alloc_old w1 _ g hlt]; exact hg1
  have ha : RelX ρ own c { s with sto := setb id (.box T [.ref id 0, c1]) s.sto } a wa := by
    rw [← hwa]
    have hag : Agree (fun _ => False) w1 (w1.alloc (.cells #[.int .u8 x] e)) := Agree.alloc _ w1 _
    exact h1.grow hag (h1.below.trans (L' := fun _ => False) ⟨rfl, rfl, rfl, hag.1, fun k hk _ => alloc_old w1 _ k hk⟩ (fun _ _ q => q.elim))
  have hva : VR ρ own wa c1 v := by
    rw [← hwa]
    exact VR.move (Agree.alloc _ w1 _) (fun _ _ q => q) (fun _ _ => rfl) hv
  have hlta : g < wa.heap.size := by
    rw [← hwa, alloc_size]
    exact Nat.lt_succ_of_lt hlt
  have hel : ∀ own : Nat → Prop, Elems own wa (.int .u8) [x] [.int .u8 x] := fun own => Elems.one (by rw [RdC.eq_def])
  have hcell : ∀ (j : Nat) (u : Value), ([.int .u8 x] : List Value)[j]? = some u → wa.cell? ((⟨w1.heap.size, 0, none⟩ : Addr).add j) = some u := by
    intro j u hj
    rw [Addr.add_lit, ← hwa, cell_of_block (alloc_new w1 _)]
    cases j with
    | zero => simpa using hj
    | succ j => simp at hj
  have main : ∀ (gs : List Nat) (ρ1 : Nat → Value) (T' : List PV), (∀ ty, AppOk P c a wa (Builtin.append_ #[tb, tb] ty #[v, .slice (some ⟨w1.heap.size, 0, none⟩) 1 1]) ρ1 L (sA.add L (.row e (.int .u8) (l ++ [x]))) gs) → g ∉ gs → ρ1 id = ρ id → look id sA.sto = some (.box T T') → (∃ ao n cap, v = .slice ao n cap) →
      ∃ (g : Nat) (ρ' : Nat → Value) (own' : Nat → Prop) (w' : World), ρ id = .pointer (some ⟨g, 0, none⟩) ∧ RelX ρ' own' c (sA.built id L e (l ++ [x])) a w' ∧ Calls P f #[.pointer (some ⟨g, 0, none⟩), .int .u8 x] w fun e w'' => e = .returned .nilIface ∧ w'' = w' := by
    intro gs ρ1 T' hap hng hr1 hlA hvs
    obtain ⟨v', w2, own', hrun, h2, hagg, ⟨ao, n, cap, hv'⟩, hsz, hfr⟩ := hap tb
    have hrun' : ∀ ty, (Builtin.append_ #[tb, tb] ty #[v, .slice (some ⟨w1.heap.size, 0, none⟩) 1 1]).run P (w1.alloc (.cells #[.int .u8 x] e)) = .ok v' w2 := fun ty => by rw [hwa]; exact hrun
    have hg2 : w2.heap[g]? = some (.cells #[.pointer (some ⟨g, 0, none⟩), v] T (0, 0)) := by rw [hfr g hlta hng]; exact hga
    have hl2 := look_add_box (b := .row e (.int .u8) (l ++ [x])) hL hlA
    have er : upd ρ1 L v' id = .pointer (some ⟨g, 0, none⟩) := by rw [upd_ne _ _ hL, hr1, e1]
    have hblk2 : g ∈ blks (upd ρ1 L v' id) := in_blk (by rw [er]; rfl)
    have how2 := h2.mine (.inr rfl) hl2 hblk2
    subst hv'
    refine ⟨g, upd ρ1 L (.slice ao n cap), own', w2.setCell ⟨g, 1, none⟩ (.slice ao n cap), e1, ?_, hf g p v x w w1 w2 hvs hh hc ao n cap hrun' v hg2⟩
    have hsb : (sA.built id L e (l ++ [x])) = { (sA.add L (.row e (.int .u8) (l ++ [x]))) with sto := setb id (.box T [.ref id 0, .own L]) (sA.add L (.row e (.int .u8) (l ++ [x]))).sto } := by
      unfold St.built St.setBox
      rw [hl2]
    rw [hsb]
    refine h2.turn hl2 hblk2 (agree_set own' w2 g 1 _ how2.1) (beneath_set h2.below how2.2 1 _) (fun k _ hk => heap_setCell_other w2 ⟨g, 1, none⟩ k _ hk) ⟨g, #[.pointer (some ⟨g, 0, none⟩), .slice ao n cap], er, set_two hg2 (.inr rfl), ?_⟩
    show VRs _ _ _ _ [_, _]
    rw [VRs]
    refine ⟨_, _, rfl, ?_, ?_⟩
    · rw [VR]
      exact ⟨g, er, rfl⟩
    · rw [VRs]
      refine ⟨_, _, rfl, ?_, ?_⟩
      · exact VR_own_new rfl
      · rw [VRs]
  rcases hA with ⟨rfl, rfl, rfl⟩ | ⟨j, rfl, hj, hgj, hlj, rfl⟩
  · rw [VR] at hva
    subst hva
    refine main [] ρ [.ref id 0, .nils] (fun ty => ?_) (by simp) rfl hself ⟨_, _, _, rfl⟩
    rw [List.nil_append]
    exact does_appel_new (m := [x]) he none (hel own) hcell (by simp) (by simp) ha
  · rw [VR] at hva
    obtain ⟨rfl, _⟩ := hva
    have hlj1 : look j ({ s with sto := setb id (.box T [.ref id 0, .own j]) s.sto } : St).sto = some (.row e (.int .u8) l) := by
      show look j (setb id _ s.sto) = _
      rw [look_set, if_neg hj]
      exact hlj
    refine main (blks (ρ j)) (upd ρ j undef) _ (fun ty => does_appel_own (m := [x]) ha he hgj hlj1 (hel own) hcell (by simp) (by simpa using hb)) (fun q => hj (h.apart j id _ _ g hlj hl q hblk)) (upd_ne _ _ (fun q => hj q.symm)) (look_used_box (fun q => hj q.symm) hself) ?_
    rcases h.sto j _ hlj with ⟨⟨A, q⟩, _⟩ | ⟨g', k, vs, q, _⟩
    · exact ⟨_, _, _, q⟩
    · exact ⟨_, _, _, q⟩
end
section
variable {ρ : Nat → Value} {own : Nat → Prop} {W0 : World} {c : Cx W0} {w w1 : World} {s : St} {a : Act} {P : Program}
/-- What is asked of (*strings.Builder).String's code. -/
structure StrOk (P : Program) (f : FuncId) (T e : TypeId) : Prop where
  full : ∀ (b g cap : Nat) (cur : Array Value) (l : List UInt8) (p : Value) (w : World), w.heap[b]? = some (.cells #[p, .slice (some ⟨g, 0, none⟩) l.length cap] T (0, 0)) → w.heap[g]? = some (.cells cur e (0, 0)) → l ≠ [] → l.length ≤ cap → cap ≤ maxLen → cur.size = cap → (∀ (j : Nat) (x : UInt8), l[j]? = some x → w.cell? ⟨g, j, none⟩ = some (.int .u8 x.toNat)) →
    Calls P f #[.pointer (some ⟨b, 0, none⟩)] w fun e w' => e = .returned (.string ⟨l.toArray⟩) ∧ KeptBut (some g) w w'
  none : ∀ (b : Nat) (p : Value) (w : World), w.heap[b]? = some (.cells #[p, .slice none 0 0] T (0, 0)) → Calls P f #[.pointer (some ⟨b, 0, none⟩)] w fun e w' => e = .returned (.string ⟨#[]⟩) ∧ KeptBut none w w'
theorem inByte_nat {n : Int} (h : inByte n = true) : ((UInt8.ofNat n.toNat).toNat : Int) = n := by
  simp only [inByte, Bool.and_eq_true, decide_eq_true_eq] at h
  rw [UInt8.toNat_ofNat']
  omega
theorem str_rel (h : RelX ρ own c s a w) {f id : Nat} {T e : TypeId} {c0 c1 : PV} (hl : look id s.sto = some (.box T [c0, c1])) (hf : StrOk P f T e) (l : List Int) (s' : St)
    (hA : (c1 = .nils ∧ l = [] ∧ s' = s) ∨ ∃ j, c1 = .own j ∧ j ≠ id ∧ gst j = false ∧ look j s.sto = some (.row e (.int .u8) l) ∧ s' = s.used j ∧ l ≠ [] ∧ l.all inByte = true) :
    ∃ g, ρ id = .pointer (some ⟨g, 0, none⟩) ∧ Calls P f #[.pointer (some ⟨g, 0, none⟩)] w fun e w' => e = .returned (.string (strOf l)) ∧ ∃ ρ' own', RelX ρ' own' c s' a w' := by
  obtain ⟨g, vs, e1, hh, hv⟩ := h.sto id _ hl
  rw [VRs] at hv
  obtain ⟨p, r, q1, hp, hv⟩ := hv
  rw [VRs] at hv
  obtain ⟨v, r', q2, hvv, hv⟩ := hv
  rw [VRs] at hv
  subst hv
  subst q2
  have evs : vs = #[p, v] := by
    apply Array.ext'
    rw [q1]
  subst evs
  refine ⟨g, e1, ?_⟩
  rcases hA with ⟨rfl, rfl, rfl⟩ | ⟨j, rfl, hj, hgj, hlj, rfl, hne, hall⟩
  · rw [VR] at hvv
    subst hvv
    refine (hf.none g p w hh).mono ?_
    rintro e w' ⟨rfl, k⟩
    refine ⟨rfl, ρ, own, h.grow ⟨k.size, fun b hb _ => k.block b hb (by simp)⟩ (h.below.trans (L' := fun _ => False) ⟨k.os, k.tape, k.output, k.size, fun b hb _ => k.block b hb (by simp)⟩ (fun _ _ q => q.elim))⟩
  · rw [VR] at hvv
    obtain ⟨rfl, _⟩ := hvv
    rcases (h.sto j _ hlj).elems with ⟨rfl, A, e2⟩ | ⟨g', k, cur, us, e2, h1, h2, hh2, h3, h4, hel⟩
    · exact absurd rfl hne
    · have hblk : g' ∈ blks (ρ j) := in_blk (by rw [e2]; rfl)
      have how := h.mine (.inl hgj) hlj hblk
      have hsz1 : (Ty.int IntKind.u8).sz = 1 := rfl
      rw [hsz1, Nat.mul_one] at h3 h4
      have hlen : (l.map fun n => UInt8.ofNat n.toNat).length = l.length := List.length_map _
      rw [e2, ← hlen] at hh
      refine (hf.full g g' (k + 1) cur (l.map fun n => UInt8.ofNat n.toNat) p w hh hh2 (by simpa using hne) (by rw [hlen]; exact h1) h2 h3 (fun i x hx => ?_)).mono ?_
      · rw [List.getElem?_map] at hx
        obtain ⟨y, hy, rfl⟩ := Option.map_eq_some_iff.1 hx
        have hr := hel.2 i y hy
        rw [hsz1, Nat.mul_one, RdC.eq_def] at hr
        have hyb : inByte y = true := List.all_eq_true.1 hall y (List.mem_of_getElem? hy)
        rw [inByte_nat hyb, cell_of_block hh2]
        have hu : us[i]? = some (.int .u8 y) := by
          have := congrArg List.head? hr
          simpa [List.head?_take, List.head?_drop] using this
        rw [← h4, List.getElem?_take] at hu
        split at hu
        · simpa using hu
        · cases hu
      · rintro e w' ⟨rfl, k⟩
        have hag : Agree own w w' := ⟨k.size, fun b hb hn => k.block b hb (fun q => hn (by cases q; exact how.1))⟩
        refine ⟨rfl, upd ρ j undef, own, h.used j undef hag (h.below.trans (L' := fun q => q = g') ⟨k.os, k.tape, k.output, k.size, fun b hb hn => k.block b hb (fun q => hn (by cases q; rfl))⟩ (fun q hq e => ?_)) (fun _ _ q => q) (fun i x q hi hx hq => ?_) (fun q hq => Nat.lt_of_lt_of_le (h.lo q hq) k.size) h.base⟩
        · subst e
          rcases how.2 with r | r
          · omega
          · exact r
        · have hqn : q ≠ g' := fun e => hi (h.apart i j x _ g' hx hlj (e ▸ hq) hblk)
          exact ⟨k.block q (h.lo q (h.owned i x q hx hq).1) (fun e => hqn (by cases e; rfl)), (h.owned i x q hx hq).1⟩
end
end Go.Proofs.Ytbaekdcacmoniaa.Pv
