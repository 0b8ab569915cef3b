/- Slices' literals, append, make, slices of slices. -/
import Derived.Test.YtbaekdcacmoniaaPv10
namespace Go.Proofs.Ytbaekdcacmoniaa.Pv
open Go Go.RowKit

section
variable {R : Type} {r : R} {ρ : Nat → Value} {own : Nat → Prop} {W0 : World} {c : Cx W0} {w w1 : World} {s : St} {a : Act} {P : Program}
theorem VR_own_new {d : Nat} {v : Value} (h : isAggV v = false := by rfl) : VR (upd ρ d v) own w (.own d) v := by
  rw [VR, upd_same]
  exact ⟨rfl, h⟩
theorem fill_row (hr : RelX ρ own c s a w) {τ : Ty} : ∀ (parts : List (Nat × Operand)) (i : Nat) {xs : List τ.den}, litRow s.sto τ i (parts.map fun p => (p.1, s.ev p.2)) = some xs → ∀ (cells : Array Value), i * τ.sz + parts.length * τ.sz ≤ cells.size →
    ∃ us, Instr.fill (fun i => some (i * τ.sz, τ.sz)) cells (parts.map fun p => (p.1, a.eval p.2)) = some (cells.toList.take (i * τ.sz) ++ us ++ cells.toList.drop (i * τ.sz + us.length)).toArray ∧ Elems own w τ xs us ∧ xs.length = parts.length
  | [], i, xs, h, cells, _ => by
    simp only [List.map_nil, litRow] at h
    cases h
    exact ⟨[], by simp [Instr.fill], Elems.nil, rfl⟩
  | (j, x) :: rest, i, xs, h, cells, hle => by
    simp only [List.map_cons, litRow] at h
    split at h
    · rename_i hc
      rw [Bool.and_eq_true] at hc
      have hij : i = j := by simpa using hc.1
      subst hij
      split at h
      · rename_i y hu
        split at h
        · rename_i l hl
          cases h
          have hx := VRs_cellsOf hr hc.2 (hr.ev x)
          obtain ⟨u, r', e1, h1, h2⟩ := uncells_sound hu hx
          rw [VRs] at h2
          subst h2
          rw [List.append_nil] at e1
          have hsz : (a.eval x).cells.size = τ.sz := by
            have := h1.len
            rw [← e1] at this
            simpa using this
          have hlen : ((i, x) :: rest).length * τ.sz = rest.length * τ.sz + τ.sz := by rw [List.length_cons, Nat.add_mul, Nat.one_mul]
          have hi1 : (i + 1) * τ.sz = i * τ.sz + τ.sz := by rw [Nat.add_mul, Nat.one_mul]
          have hul : u.length = τ.sz := h1.len
          obtain ⟨us, h3, h4, h5⟩ := fill_row hr rest (i + 1) hl (cells.toList.take (i * τ.sz) ++ (a.eval x).cells.toList ++ cells.toList.drop (i * τ.sz + τ.sz)).toArray (by
            simp
            omega)
          refine ⟨u ++ us, ?_, (Elems.one h1).append h4, by simp [h5]⟩
          rw [List.map_cons, fill_step (i := i) (off := i * τ.sz) (n := τ.sz) rfl hsz (by omega), h3]
          congr 2
          rw [hi1, e1]
          have l1 : (cells.toList.take (i * τ.sz) ++ u).length = i * τ.sz + τ.sz := by simp; omega
          rw [List.take_left' l1, ← List.append_assoc]
          congr 1
          rw [List.drop_append, l1, List.drop_eq_nil_of_le (by omega), List.nil_append, List.drop_drop]
          congr 1
          simp
          omega
        · cases h
      · cases h
    · cases h
theorem does_buildSlice (h : RelX ρ own c s a w) {t e : TypeId} {τ : Ty} {b d n : Nat} (he : elemT P t = some (e, τ, b)) {parts : Array (Nat × Operand)} (hn : n * τ.sz ≤ 16777216) (hp : parts.size = n) {l : List τ.den}
    (hl : litRow s.sto τ 0 (parts.toList.map fun p => (p.1, s.ev p.2)) = some l) {K : PV → St → Option R} (hK : K (.own d) (s.add d (.row e τ l)) = some r) :
    Does P c a w (do pure (.value (← Instr.buildSlice t n (parts.map fun (i, x) => (i, a.eval x))))) K r := by
  obtain ⟨i, z, hu, hi, hz, hs, hb, hzs, h0, hb0, _⟩ := elemT_info he
  have hpl : parts.toList.length = n := by simpa using hp
  have main : ∀ cells : Array Value, cells.size = n * τ.sz → ∃ us, Instr.fill (fun i => some (i * τ.sz, τ.sz)) cells (parts.map fun (i, x) => (i, a.eval x)).toList = some us.toArray ∧ Elems own w τ l us ∧ l.length = n := by
    intro cells hc
    obtain ⟨us, h1, h2, h3⟩ := fill_row h parts.toList 0 hl cells (by rw [hpl]; omega)
    refine ⟨us, ?_, h2, h3.trans hpl⟩
    rw [Array.toList_map]
    have hul : us.length = n * τ.sz := by rw [h2.1, h3, hpl]
    have : (cells.toList.take (0 * τ.sz) ++ us ++ cells.toList.drop (0 * τ.sz + us.length)) = us := by
      rw [Nat.zero_mul, Nat.zero_add, List.take_zero, List.nil_append, List.drop_eq_nil_of_le (by simp; omega), List.append_nil]
    rw [this] at h1
    exact h1
  have hrun : ∃ us, (Instr.buildSlice t n (parts.map fun (i, x) => (i, a.eval x))).run P w = .ok (.slice (some ⟨w.heap.size, 0, none⟩) n n) (w.alloc (.cells us.toArray e)) ∧ Elems own w τ l us ∧ l.length = n := by
    have hbig : ¬ (n * i.size > 2 ^ 24) := by rw [hs]; omega
    have hso : (sizeOf e).run P w = .ok i.size w := by simp [sizeOf, typeInfo, hi]
    have hzv : (zeroValue e).run P w = .ok z w := by simp [zeroValue, typeInfo, hi, hz]
    by_cases hn0 : n * i.size = 0
    · obtain ⟨us, h1, h2, h3⟩ := main ((Array.range (n * τ.sz)).map ((#[] : Array Value)[· % (#[] : Array Value).size]!)) (by simp)
      refine ⟨us, ?_, h2, h3⟩
      unfold Instr.buildSlice
      rw [← hs] at h1
      simp only [Sem.run_bind, run_underlying hu, Result.andThen_ok, hso, if_neg hbig, if_pos hn0, Sem.run_pure, h1]
      simp [newRow]
    · obtain ⟨us, h1, h2, h3⟩ := main ((Array.range (n * τ.sz)).map (z.cells[· % z.cells.size]!)) (by simp)
      refine ⟨us, ?_, h2, h3⟩
      unfold Instr.buildSlice
      rw [← hs] at h1
      simp only [Sem.run_bind, run_underlying hu, Result.andThen_ok, hso, if_neg hbig, if_neg hn0, hzv, Sem.run_pure, h1]
      simp [newRow]
  obtain ⟨us, h1, h2, h3⟩ := hrun
  have hul : us.length = n * τ.sz := by rw [h2.1, h3]
  have hag := Agree.alloc own w (.cells us.toArray e)
  refine Does.value hK (h.fresh d (.slice (some ⟨w.heap.size, 0, none⟩) n n) _ (fun g hg => alloc_old w _ g hg) (by rw [alloc_size]; omega) (Beneath.alloc _ _ _) (fun g q => ?_) ?_) (v := .slice (some ⟨w.heap.size, 0, none⟩) n n) VR_own_new h1
  · cases n with
    | zero => cases q
    | succ n => exact List.mem_singleton.1 q
  · refine BR.of_elems (h2.move hag (fun g hg q => q.resolve_right (by omega))) (by rw [upd_same, h3]) (by omega) ?_ (alloc_new w _) (by simpa using hul) (by simp)
    have : n * 1 ≤ n * τ.sz := Nat.mul_le_mul_left _ h0
    simp only [maxLen]
    omega
/-- The cells behind a slice's value. -/
theorem elems_behind {t : Ty} {m : List t.den} {b : Addr} (h : ∀ (i : Nat) (y : t.den), m[i]? = some y → ∃ u : List Value, u.length = t.sz ∧ RdC own w t y u ∧ ∀ (j : Nat) (z : Value), u[j]? = some z → w.cell? (b.add (i * t.sz + j)) = some z) (h0 : 0 < t.sz) :
    ∃ news, Elems own w t m news ∧ ∀ (j : Nat) (v : Value), news[j]? = some v → w.cell? (b.add j) = some v := by
  have key : ∀ j, j < m.length * t.sz → ∃ v, w.cell? (b.add j) = some v := by
    intro j hj
    have hi : j / t.sz < m.length := Nat.div_lt_of_lt_mul (by rw [Nat.mul_comm]; exact hj)
    obtain ⟨u, h1, _, h3⟩ := h _ _ (List.getElem?_eq_getElem hi)
    have hl : j % t.sz < u.length := by rw [h1]; exact Nat.mod_lt _ h0
    have := h3 (j % t.sz) _ (List.getElem?_eq_getElem hl)
    rw [Nat.mul_comm, Nat.div_add_mod] at this
    exact ⟨_, this⟩
  refine ⟨(List.range (m.length * t.sz)).map (fun j => (w.cell? (b.add j)).getD undef), ⟨by simp, fun i y hy => ?_⟩, fun j v hj => ?_⟩
  · obtain ⟨u, h1, h2, h3⟩ := h i y hy
    have hi : i < m.length := by
      rcases Nat.lt_or_ge i m.length with q | q
      · exact q
      · simp [List.getElem?_eq_none q] at hy
    have hm : (i + 1) * t.sz ≤ m.length * t.sz := Nat.mul_le_mul_right _ hi
    rw [Nat.add_mul, Nat.one_mul] at hm
    have : ((((List.range (m.length * t.sz)).map (fun j => (w.cell? (b.add j)).getD undef)).drop (i * t.sz)).take t.sz) = u := by
      apply List.ext_getElem?
      intro j
      rw [List.getElem?_take, List.getElem?_drop, List.getElem?_map]
      by_cases hj : j < t.sz
      · rw [if_pos hj, List.getElem?_range (by omega)]
        have hju : j < u.length := by omega
        rw [List.getElem?_eq_getElem hju, Option.map_some, h3 j _ (List.getElem?_eq_getElem hju)]
        rfl
      · rw [if_neg hj, List.getElem?_eq_none (by omega)]
    rw [this]
    exact h2
  · rw [List.getElem?_map] at hj
    by_cases hl : j < m.length * t.sz
    · rw [List.getElem?_range hl, Option.map_some] at hj
      obtain ⟨v', hv'⟩ := key j hl
      rw [hv'] at hj ⊢
      simpa using hj
    · rw [List.getElem?_eq_none (by simp; omega)] at hj
      cases hj
theorem BR.elems {id : Nat} {e : TypeId} {t : Ty} {l : List t.den} (h : BR ρ own w id (.row e t l)) : (l = [] ∧ ∃ A, ρ id = .slice A 0 0) ∨ ∃ (g k : Nat) (cur : Array Value) (us : List Value), ρ id = .slice (some ⟨g, 0, none⟩) l.length (k + 1) ∧ l.length ≤ k + 1 ∧ k + 1 ≤ maxLen ∧ w.heap[g]? = some (.cells cur e (0, 0)) ∧ cur.size = (k + 1) * t.sz ∧ cur.toList.take (l.length * t.sz) = us ∧ Elems own w t l us := by
  rcases h with ⟨⟨A, e1⟩, e2⟩ | ⟨g, k, vs, e1, h1, h2, hh, h3, h5⟩
  · exact .inl ⟨e2, A, e1⟩
  · have hm : l.length * t.sz ≤ (k + 1) * t.sz := Nat.mul_le_mul_right _ h1
    refine .inr ⟨g, k, vs, _, e1, h1, h2, hh, h3, rfl, by simp; omega, fun i x hx => ?_⟩
    have hi : i < l.length := by
      rcases Nat.lt_or_ge i l.length with q | q
      · exact q
      · simp [List.getElem?_eq_none q] at hx
    have hm' : (i + 1) * t.sz ≤ l.length * t.sz := Nat.mul_le_mul_right _ hi
    rw [Nat.add_mul, Nat.one_mul] at hm'
    rw [List.drop_take, List.take_take, Nat.min_eq_left (by omega)]
    exact h5 i x hx
/-- append to a slice without room. -/
theorem does_append_new (h : RelX ρ own c s a w) {t ty e : TypeId} {τ : Ty} {b d : Nat} (he : elemT P t = some (e, τ, b)) (A : Option Addr) {y : PV} {m : List τ.den} (hm : contents s e τ y = some m) {vy : Value} (hy : VR ρ own w y vy) (hb : m.length * b ≤ 140737488355328) {s1 : St} {ρ1 : Nat → Value}
    (h1 : RelX ρ1 own c s1 a w) {K : PV → St → Option R} (hK : K (.own d) (s1.add d (.row e τ m)) = some r) : Does P c a w (do pure (.value (← Builtin.append_ #[t, t] ty #[.slice A 0 0, vy]))) K r := by
  obtain ⟨i, z, hu, hi, hz, hs, hby, hzs, h0, hb0, _⟩ := elemT_info he
  obtain ⟨B, k, rfl, hB, hc⟩ := contents_of hm h hy
  have hml : m.length ≤ 140737488355328 := Nat.le_trans (Nat.le_mul_of_pos_right _ hb0) hb
  have hmx : m.length ≤ maxLen := by simp only [maxLen]; omega
  by_cases h00 : m.length = 0
  · have hm0 : m = [] := List.eq_nil_of_length_eq_zero h00
    subst hm0
    refine Does.value hK (ρ' := upd ρ1 d (.slice A 0 0)) (own' := own) (w' := w) (h1.add d _ _ (Agree.refl _ _) h1.below (fun _ _ q => q) (fun j x g _ hj hg => ⟨rfl, (h1.owned j x g hj hg).1⟩) h1.lo h1.base (fun j x g _ hj hg q => by cases A <;> cases q) (fun g q => by cases A <;> cases q) (.inl ⟨⟨A, upd_same _ _ _⟩, rfl⟩)) (v := .slice A 0 0) VR_own_new ?_
    cases A <;> cases B <;> simp [Builtin.append_, run_underlying hu, sizeOf, typeInfo, hi, Builtin.lenOf, Builtin.firstCells, loadCells, loadCellsFrom, storeCells]
  · cases B with
    | none => exact absurd (by rw [(hB rfl).1]; rfl) h00
    | some b0 =>
      obtain ⟨news, hel, hcell⟩ := elems_behind (hc b0 rfl) h0
      have hnl : news.length = m.length * i.size := by rw [hs]; exact hel.1
      have hrun : (Builtin.append_ #[t, t] ty #[.slice A 0 0, .slice (some b0) m.length k]).run P w = .ok (.slice (some ⟨w.heap.size, 0, none⟩) m.length (grownCap w m.length 0 e)) (w.drew.alloc (.cells (news.toArray ++ Builtin.zeroCells z.cells (grownCap w m.length 0 e - m.length)) e)) := by
        cases A with
        | none => exact run_append_nil w t ty e i z hu hi hz b0 m.length k news hnl hcell (by omega) (by omega) (by rw [hby]; omega)
        | some A =>
          have := run_append_grow (P := P) w t ty e i z hu hi hz A 0 0 [] (by simp) (by simp) b0 m.length k news hnl hcell (by omega) (by omega) (by rw [Nat.zero_add, nextslicecap_zero (by omega), hby]; omega)
          simpa using this
      have hge := grownCap_ge w m.length 0 e
      have hcm := grownCap_le_maxLen w m.length 0 e hmx
      have hag : Agree own w (w.drew.alloc (.cells (news.toArray ++ Builtin.zeroCells z.cells (grownCap w m.length 0 e - m.length)) e)) := Agree.alloc own w.drew _
      have hben : Beneath (fun _ => False) w (w.drew.alloc (.cells (news.toArray ++ Builtin.zeroCells z.cells (grownCap w m.length 0 e - m.length)) e)) := ⟨rfl, rfl, rfl, hag.1, fun g hg _ => alloc_old w.drew _ g hg⟩
      refine Does.value hK (h1.fresh d (.slice (some ⟨w.heap.size, 0, none⟩) m.length (grownCap w m.length 0 e)) _ (fun g hg => alloc_old w.drew _ g hg) ?_ hben (fun g q => ?_) ?_) (v := .slice (some ⟨w.heap.size, 0, none⟩) m.length (grownCap w m.length 0 e)) VR_own_new hrun
      · rw [alloc_size]
        exact Nat.lt_succ_self _
      · cases hg : grownCap w m.length 0 e with
        | zero => rw [hg] at q; cases q
        | succ n => rw [hg] at q; exact List.mem_singleton.1 q
      · refine BR.of_elems (hel.move hag (fun g hg q => q.resolve_right (by omega))) (upd_same _ _ _) hge hcm (alloc_new w.drew _) ?_ (by rw [Array.toList_append]; exact List.take_left)
        simp only [Array.size_append, List.size_toArray, size_zeroCells, hzs, hel.1, ← Nat.add_mul]
        congr 1
        omega
/-- The block of a row of the call's own, turned, under a new label. -/
theorem RelX.renew (h : RelX ρ own c s a w) {id d g : Nat} {e : TypeId} {τ : Ty} {l : List τ.den} (hl : look id s.sto = some (.row e τ l)) (hown : own g ∧ (c.w0.heap.size ≤ g ∨ c.L g)) (hg : g ∈ blks (ρ id)) (hsz : w.heap.size ≤ w1.heap.size) (hos : w1.os = w.os) (htp : w1.tape = w.tape) (hot : w1.output = w.output)
    (hbl : ∀ k, k < w.heap.size → k ≠ g → w1.heap[k]? = w.heap[k]?) {v : Value} (hv : ∀ k, k ∈ blks v → k = g) {b : Blk} (hbr : BR (upd (upd ρ id undef) d v) own w1 d b) : RelX (upd (upd ρ id undef) d v) own c ((s.used id).add d b) a w1 := by
  have hused : RelX (upd ρ id undef) own c (s.used id) a w := h.used id undef (Agree.refl _ _) h.below (fun _ _ q => q) (fun j x g _ hj hg => ⟨rfl, (h.owned j x g hj hg).1⟩) h.lo h.base
  have lk : ∀ j x, look j (s.used id).sto = some x → j ≠ id ∧ ∃ x0, look j s.sto = some x0 := by
    intro j x hj
    have := look_drop id _ j x hj
    obtain ⟨b0, q, _⟩ := look_forget id s.sto j x this.2
    exact ⟨this.1, b0, q⟩
  have hother : ∀ j x q, look j (s.used id).sto = some x → q ∈ blks (upd ρ id undef j) → q ≠ g ∧ own q := by
    intro j x q hj hq
    obtain ⟨hne, x0, hx0⟩ := lk j x hj
    rw [upd_ne _ _ hne] at hq
    exact ⟨fun e => hne (h.apart j id x0 _ g hx0 hl (e ▸ hq) hg), (h.owned j x0 q hx0 hq).1⟩
  have hag : Agree own w w1 := ⟨hsz, fun q hq hnq => hbl q hq (fun e => hnq (e ▸ hown.1))⟩
  have hben : Beneath c.L c.w0 w1 := h.below.trans (L' := fun q => q = g) ⟨hos, htp, hot, hsz, fun q hq hnq => hbl q hq hnq⟩ (fun q hq e => by subst e; rcases hown.2 with k | k; omega; exact k)
  exact hused.addL d v b hag hben (fun _ _ q => q) (fun j x q _ hj hq => ⟨hbl q (h.lo q (hother j x q hj hq).2) (hother j x q hj hq).1, (hother j x q hj hq).2⟩) (fun q hq => Nat.lt_of_lt_of_le (h.lo q hq) hsz) h.base
    (fun j x q _ hj hq e => (hother j x q hj hq).1 (hv q e)) (fun q hq => by rw [hv q hq]; exact hown) hbr
/-- append to a row of the call's own. -/
theorem does_append_own (h : RelX ρ own c s a w)  {t ty e : TypeId} {τ : Ty} {b d id : Nat} (he : elemT P t = some (e, τ, b)) {y : PV} {l m : List τ.den} (hl : look id s.sto = some (.row e τ l)) (hmine : ∀ g, g ∈ blks (ρ id) → own g ∧ (c.w0.heap.size ≤ g ∨ c.L g)) (hm : contents s e τ y = some m) {vy : Value} (hy : VR ρ own w y vy) (hb : (l.length + m.length) * b ≤ 140737488355328)
    {K : PV → St → Option R} (hK : K (.own d) ((s.used id).add d (.row e τ (l ++ m))) = some r) : Does P c a w (do pure (.value (← Builtin.append_ #[t, t] ty #[ρ id, vy]))) K r := by
  obtain ⟨i, z, hu, hi, hz, hs, hby, hzs, h0, hb0, _⟩ := elemT_info he
  have hused : RelX (upd ρ id undef) own c (s.used id) a w := h.used id undef (Agree.refl _ _) h.below (fun _ _ q => q) (fun j x g _ hj hg => ⟨rfl, (h.owned j x g hj hg).1⟩) h.lo h.base
  have hml : l.length + m.length ≤ 140737488355328 := Nat.le_trans (Nat.le_mul_of_pos_right _ hb0) hb
  have hmx : l.length + m.length ≤ maxLen := by simp only [maxLen]; omega
  rcases (h.sto id _ hl).elems with ⟨rfl, A, e1⟩ | ⟨g, k, cur, us, e1, h1, h2, hh, h3, h4, hel⟩
  · rw [e1]
    refine does_append_new h he A hm hy ?_ hused hK
    simpa using hb
  · have hblk : g ∈ blks (ρ id) := in_blk (by rw [e1]; rfl)
    have hus : us.length = l.length * τ.sz := hel.1
    obtain ⟨B, k', rfl, hB, hc⟩ := contents_of hm h hy
    cases B with
    | none =>
      obtain ⟨rfl, rfl⟩ := hB rfl
      have hrun : (Builtin.append_ #[t, t] ty #[ρ id, .slice none 0 0]).run P w = .ok (ρ id) w := by
        rw [e1]
        simp [Builtin.append_, run_underlying hu, sizeOf, typeInfo, hi, Builtin.lenOf, Builtin.firstCells, h1, storeCells]
      refine Does.value hK (h.renew hl (hmine _ hblk) hblk (Nat.le_refl _) rfl rfl rfl (fun _ _ _ => rfl) (v := ρ id) (fun q hq => by rw [e1] at hq; exact List.mem_singleton.1 hq) ?_) (VR_own_new (by rw [e1]; rfl)) hrun
      rw [List.append_nil]
      exact BR.of_elems hel (by rw [upd_same]; exact e1) h1 h2 hh h3 (by rw [hus]; exact h4)
    | some b0 =>
      obtain ⟨news, hel2, hcell⟩ := elems_behind (hc b0 rfl) h0
      have hnl : news.length = m.length * i.size := by rw [hs]; exact hel2.1
      have hnl' := hel2.1
      by_cases hroom : l.length + m.length ≤ k + 1
      · have hmul : (l.length + m.length) * τ.sz ≤ (k + 1) * τ.sz := Nat.mul_le_mul_right _ hroom
        rw [Nat.add_mul] at hmul
        have hrun := run_append_room (P := P) w t ty e i hu hi g l.length (k + 1) cur hh b0 m.length k' news hnl hcell (hel2.oneCell h0) hroom (by rw [hs]; omega)
        rw [← e1] at hrun
        have hag : Agree own w (w.setRow g (cur.toList.take (l.length * i.size) ++ news ++ cur.toList.drop (l.length * i.size + news.length)).toArray) := ⟨by simp, fun q _ hq => setRow_other w g q _ (fun e => hq (e ▸ (h.owned id _ g hl hblk).1))⟩
        refine Does.value hK (h.renew hl (hmine _ hblk) hblk (w1 := w.setRow g (cur.toList.take (l.length * i.size) ++ news ++ cur.toList.drop (l.length * i.size + news.length)).toArray) (by simp) rfl rfl rfl (fun q _ hq => setRow_other w g q _ hq) (v := .slice (some ⟨g, 0, none⟩) (l.length + m.length) (k + 1)) (fun q hq => List.mem_singleton.1 hq) ?_) VR_own_new hrun
        refine BR.of_elems (us := us ++ news) ((hel.append hel2).move hag (fun _ _ q => q)) (by rw [upd_same, List.length_append]) (by simpa using hroom) h2 (setRow_heap w g cur _ e _ hh) ?_ ?_
        · simp only [List.size_toArray, List.length_append, List.length_take, List.length_drop, Array.length_toList, hs]
          omega
        · rw [hs]
          simp only []
          rw [h4]
          exact List.take_left
      · have holds : ∀ j u, us[j]? = some u → w.cell? ((⟨g, 0, none⟩ : Addr).add j) = some u := by
          intro j u hj
          rw [Addr.add_lit, cell_of_block hh]
          rw [← h4, List.getElem?_take] at hj
          split at hj
          · simpa using hj
          · cases hj
        have hrun := run_append_grow (P := P) w t ty e i z hu hi hz ⟨g, 0, none⟩ l.length (k + 1) us (by rw [hs]; exact hus) holds b0 m.length k' news hnl hcell (by omega) (by omega) (growslice_fits (by omega) (by rw [hby]; exact hb))
        rw [← e1] at hrun
        have hge := grownCap_ge w (l.length + m.length) (k + 1) e
        have hcm := grownCap_le_maxLen w (l.length + m.length) (k + 1) e hmx
        have hag : Agree own w (w.drew.alloc (.cells (us.toArray ++ news.toArray ++ Builtin.zeroCells z.cells (grownCap w (l.length + m.length) (k + 1) e - (l.length + m.length))) e)) := Agree.alloc own w.drew _
        have hben : Beneath (fun _ => False) w (w.drew.alloc (.cells (us.toArray ++ news.toArray ++ Builtin.zeroCells z.cells (grownCap w (l.length + m.length) (k + 1) e - (l.length + m.length))) e)) := ⟨rfl, rfl, rfl, hag.1, fun q hq _ => alloc_old w.drew _ q hq⟩
        refine Does.value hK (hused.fresh d (.slice (some ⟨w.heap.size, 0, none⟩) (l.length + m.length) (grownCap w (l.length + m.length) (k + 1) e)) _ (fun q hq => alloc_old w.drew _ q hq) ?_ hben (fun q hq => ?_) ?_) VR_own_new hrun
        · rw [alloc_size]
          exact Nat.lt_succ_self _
        · cases hg : grownCap w (l.length + m.length) (k + 1) e with
          | zero => rw [hg] at hq; cases hq
          | succ n => rw [hg] at hq; exact List.mem_singleton.1 hq
        · refine BR.of_elems (g := w.heap.size) (k := grownCap w (l.length + m.length) (k + 1) e) (us := us ++ news) ((hel.append hel2).move hag (fun q hq e => e.resolve_right (by omega))) (by rw [upd_same, List.length_append]) (by simpa using hge) hcm (alloc_new w.drew _) ?_ ?_
          · simp only [Array.size_append, List.size_toArray, size_zeroCells, hzs, hus, hnl', ← Nat.add_mul]
            congr 1
            omega
          · rw [Array.toList_append, Array.toList_append]
            exact List.take_left
end
end Go.Proofs.Ytbaekdcacmoniaa.Pv
