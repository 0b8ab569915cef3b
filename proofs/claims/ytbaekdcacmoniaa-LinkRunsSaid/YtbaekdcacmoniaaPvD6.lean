/- A region that draws its order: whatever the order, the machine's state is what it comes to. -/
import Derived.Test.YtbaekdcacmoniaaPv16
namespace Go.Proofs.Ytbaekdcacmoniaa.Pv
open Go Go.RowKit

section
variable {R : Type} {r : R} {W0 : World} {c : Cx W0} {P : Program} {S : List (FuncId × FSig)} {callT : (f : FuncId) → (g : FSig) → List PV → Option g.res.den}
theorem yielded_of {ρ : Nat → Value} {own : Nat → Prop} {s : St} {a : Act} {w : World} {ops : Array Oper} (hr : RelX ρ own c s a w) {j t : Nat} {b : Bool} (ht : dstAt ops.toList j = some t) (hb : nth s.env t = .bool b) : yielded ops a.tmps j = some b := by
  have hb := hr.envAt hb
  unfold dstAt at ht
  rw [Array.getElem?_toList] at ht
  unfold yielded
  rw [ht, Option.bind_some]
  rw [Array.getD_eq_getD_getElem?] at hb
  cases hq : a.tmps[t]? with
  | none => rw [hq] at hb; cases hb
  | some v => rw [hq] at hb; cases hb; rfl
theorem blank_rel {ρ : Nat → Value} {own : Nat → Prop} {a : Act} {w : World} : ∀ (ds : List Nat) {s : St}, RelX ρ own c s a w → RelX ρ own c ⟨blank ds s.env, s.sto⟩ a w
  | [], _, h => h
  | d :: ds, s, h => blank_rel ds (s := s.puto (some d) .undef) (h.same (by rw [VR]; trivial))
theorem nth_blank : ∀ (ds : List Nat) (e : List PV) (t : Nat), (t ∈ ds ∨ nth e t = .undef) → nth (blank ds e) t = .undef
  | [], e, t, h => by
    rcases h with h | h
    · cases h
    · exact h
  | d :: ds, e, t, h => by
    rw [blank]
    refine nth_blank ds _ t ?_
    by_cases hd : t = d
    · right
      rw [nth_put]
      split
      · rfl
      · rename_i hn
        exact nth_out _ _ (by have : ¬ d < e.length := fun q => hn ⟨hd, q⟩; omega)
    · rcases h with h | h
      · rcases List.mem_cons.1 h with q | q
        · exact absurd q hd
        · exact .inl q
      · right
        rw [nth_put, if_neg (fun q => hd q.1)]
        exact h
theorem blank_or : ∀ (ds : List Nat) (e : List PV) (t : Nat), nth (blank ds e) t = .undef ∨ nth (blank ds e) t = nth e t
  | [], e, t => .inr rfl
  | d :: ds, e, t => by
    rw [blank]
    rcases blank_or ds (put e d .undef) t with h | h
    · exact .inl h
    · rw [h, nth_put]
      split
      · exact .inl rfl
      · exact .inr rfl
theorem len_blank : ∀ (ds : List Nat) (e : List PV), (blank ds e).length = e.length
  | [], _ => rfl
  | d :: ds, e => by rw [blank, len_blank ds, len_put]
theorem mem_hidL {ms : List Nat} {i d : Nat} : ∀ {os : List Oper} {n j : Nat} {o : Oper}, os[j]? = some o → isAsg o = true → o.dst = some d → mbit (ms.getD i 0) (n + j) = false → mbit (ms.getD (n + j) 0) i = false → d ∈ hidL ms i n os
  | [], _, _, _, h, _, _, _, _ => by simp at h
  | o' :: os, n, 0, o, h, ha, hd, h1, h2 => by
    cases h
    rw [hidL, if_pos (by rw [ha]; simp only [Nat.add_zero] at h1 h2; rw [h1, h2]; rfl), hd]
    exact List.mem_cons_self
  | o' :: os, n, j + 1, o, h, ha, hd, h1, h2 => by
    have := mem_hidL (n := n + 1) (j := j) (os := os) (by simpa using h) ha hd (by rw [Nat.add_assoc, Nat.add_comm 1 j]; exact h1) (by rw [Nat.add_assoc, Nat.add_comm 1 j]; exact h2)
    rw [hidL]
    split
    · split
      · exact List.mem_cons_of_mem _ this
      · exact this
    · exact this
/-- What of a list is done: all before n but what is still to do. -/
def Done (ops : Array Oper) (listed : Array Bool) (n : Nat) (rem : List Nat) : Prop := listed.size = ops.size ∧ ∀ j, j < ops.size → (listed.getD j false = true ↔ j < n ∧ j ∉ rem)
theorem Done.getD {ops : Array Oper} {listed : Array Bool} {n : Nat} {rem : List Nat} (h : Done ops listed n rem) {j : Nat} (hj : j < ops.size) : listed.getD j true = listed.getD j false := by
  have : j < listed.size := by rw [h.1]; exact hj
  simp [Array.getD, this]
theorem Done.set {ops : Array Oper} {listed : Array Bool} {n : Nat} {rem rem' : List Nat} {n' i : Nat} (h : Done ops listed n rem) (hi : i < ops.size) (he : ∀ j, (j < n' ∧ j ∉ rem') ↔ (j = i ∨ (j < n ∧ j ∉ rem))) : Done ops (listed.setIfInBounds i true) n' rem' := by
  refine ⟨by rw [Array.size_setIfInBounds]; exact h.1, fun j hj => ?_⟩
  rw [he, Array.getD_eq_getD_getElem?, Array.getElem?_setIfInBounds]
  by_cases e : i = j
  · subst e
    have : i < listed.size := by rw [h.1]; exact hi
    simp [this]
  · rw [if_neg e, ← Array.getD_eq_getD_getElem?, h.2 j hj]
    constructor
    · exact fun q => .inr q
    · exact fun q => q.resolve_left (fun k => e k.symm)
theorem ready_of {ops : Array Oper} {listed : Array Bool} {n : Nat} {rem : List Nat} (h : Done ops listed n rem) {i : Nat} (hi : i ∈ Region.ready .any ops listed) : i < ops.size ∧ ¬ (i < n ∧ i ∉ rem) ∧ ∃ o, ops[i]? = some o ∧ ∀ e, e ∈ o.after.toList → Region.binds .any e = true → e.on < n ∧ e.on ∉ rem ∨ ops.size ≤ e.on := by
  obtain ⟨h0, o, ho, hall⟩ := mem_ready.1 hi
  have hlt : i < ops.size := (Array.getElem?_eq_some_iff.1 ho).1
  refine ⟨hlt, fun q => ?_, o, ho, fun e he hb => ?_⟩
  · have := (h.2 i hlt).2 q
    rw [h.getD hlt, this] at h0
    cases h0
  · rcases Nat.lt_or_ge e.on ops.size with q | q
    · exact .inl ((h.2 e.on q).1 (hall e (by simpa using he) hb))
    · exact .inr q
/-- What is ready comes behind nothing that is still to do. -/
theorem ready_bits {ops : Array Oper} {ms : List Nat} (hB : Behind ops.toList ms) {listed : Array Bool} {n : Nat} {rem : List Nat} (h : Done ops listed n rem) (hcl : ∀ j, j < n → j ∉ rem → ∀ k, mbit (ms.getD j 0) k = true → k ∉ rem) {i : Nat} (hi : i ∈ Region.ready .any ops listed) {k : Nat} (hk : mbit (ms.getD i 0) k = true) : k < n ∧ k ∉ rem := by
  obtain ⟨hlt, _, o, ho, hall⟩ := ready_of h hi
  obtain ⟨e, h1, h2, h3⟩ := hB.bit i o k (by rw [Array.getElem?_toList]; exact ho) hk
  have hon := hB.on i o e (by rw [Array.getElem?_toList]; exact ho) h1 h2
  have hd := (hall e h1 h2).resolve_right (by omega)
  rcases h3 with rfl | q
  · exact hd
  · exact ⟨by have := hB.lt _ _ q; omega, hcl _ hd.1 hd.2 k q⟩
/-- While something is to do, something is ready. -/
theorem ready_some {ops : Array Oper} {ms : List Nat} (hB : Behind ops.toList ms) {listed : Array Bool} {n : Nat} {rem : List Nat} (h : Done ops listed n rem) (hn : ∀ j, j ∈ rem → j < n) (hle : n ≤ ops.size) (hr : rem ≠ [] ∨ n < ops.size) : Region.ready .any ops listed ≠ [] := by
  have hex : ∃ j, j < ops.size ∧ ¬ (j < n ∧ j ∉ rem) ∧ ∀ k, k < j → k < n ∧ k ∉ rem := by
    by_cases hrem : rem = []
    · subst hrem
      have := hr.resolve_left (fun q => q rfl)
      exact ⟨n, this, fun q => Nat.lt_irrefl _ q.1, fun k hk => ⟨hk, List.not_mem_nil⟩⟩
    · have : ∀ m, (∃ j, j ∈ rem ∧ j ≤ m) → ∃ j, j ∈ rem ∧ ∀ k, k < j → k ∉ rem := by
        intro m
        induction m with
        | zero => rintro ⟨j, hj, hj0⟩; exact ⟨j, hj, fun k hk => by omega⟩
        | succ m ih =>
          rintro ⟨j, hj, hjm⟩
          by_cases q : ∃ j, j ∈ rem ∧ j ≤ m
          · exact ih q
          · exact ⟨j, hj, fun k hk hkr => q ⟨k, hkr, by omega⟩⟩
      obtain ⟨x, hx⟩ := List.exists_mem_of_ne_nil rem hrem
      obtain ⟨j, hj, hmin⟩ := this x ⟨x, hx, Nat.le_refl _⟩
      have hjn := hn j hj
      exact ⟨j, by omega, fun q => q.2 hj, fun k hk => ⟨by omega, hmin k hk⟩⟩
  obtain ⟨j, hj, hnd, hmin⟩ := hex
  intro he
  have : j ∈ Region.ready .any ops listed := by
    rw [mem_ready]
    refine ⟨?_, ops[j], by simp [hj], fun e hee hb => ?_⟩
    · rw [h.getD hj]
      cases hq : listed.getD j false with
      | false => rfl
      | true => exact absurd ((h.2 j hj).1 hq) hnd
    · have hon := hB.on j ops[j] e (by simp [hj]) (by simpa using hee) hb
      exact (h.2 e.on (by omega)).2 (hmin _ hon)
  rw [he] at this
  cases this
/-- One operation, by the machine, as the model has it. -/
theorem op_sound (hS : OkS P S W0) (hcall : ∀ f g args x, callT f g args = some x → CallOk W0 P f g args x) {ops : Array Oper} {Q : Exit → Act → World → Prop} {i : Nat} {o : Oper} (ho : ops[i]? = some o) {K : St → Option R} {s : St} {a : Act} {w : World} {ρ : Nat → Value} {own : Nat → Prop} (h : evOps P S callT ops.toList [o] s K = some r) (hr : RelX ρ own c s a w) {Kp : Act → World → Prop}
    (hK : ∀ ρ' own' s' a' w', K s' = some r → RelX ρ' own' c s' a' w' → Kp a' w') : wpOp P ops Q i Kp a w := by
  unfold wpOp
  rw [ho]
  simp only
  rw [evOps] at h
  split at h
  · rename_i hg
    rw [if_pos (by simp [Region.wanted, hg])]
    exact .inl (evOp_sound hS hcall hr h fun ρ' own' p v s' w' hK' hR hv => hK _ _ _ _ _ hK' (hR.puto _ hv))
  · rename_i j want hg
    split at h
    · cases h
    · rename_i t ht
      rcases guardV_some h with ⟨b, eb, h⟩ | ⟨ev, h⟩
      case inr =>
        rw [if_neg (by simp [Region.wanted, hg, yielded_void hr ht ev])]
        exact hK _ _ _ _ _ h (hr.puto _ VR_void)
      have hb := hr.envAt eb
      have hy := yielded_of hr ht eb
      split at h
      · rename_i e
        subst e
        rw [if_pos (by simp [Region.wanted, hg, hy])]
        exact .inl (evOp_sound hS hcall (hr.same (p := .bool b) (by rw [VR]; exact hb)) h fun ρ' own' p v s' w' hK' hR hv => hK _ _ _ _ _ hK' (hR.puto _ hv))
      · rename_i e
        rw [if_neg (by simp [Region.wanted, hg, hy, e])]
        have hb' : b = !want := by cases b <;> cases want <;> simp_all
        exact hK _ _ _ _ _ h ((hr.same (p := .bool (!want)) (by rw [VR, ← hb']; exact hb)).puto _ VR_void)
theorem memN_iff (j : Nat) : ∀ (l : List Nat), memN j l = true ↔ j ∈ l
  | [] => by simp [memN]
  | x :: l => by
    rw [memN, Bool.or_eq_true, memN_iff j l, List.mem_cons]
    constructor
    · rintro (q | q)
      · exact .inl (by simpa using (show x = j by simpa using q).symm)
      · exact .inr q
    · rintro (q | q)
      · exact .inl (by simp [q])
      · exact .inr q
theorem fl_mem {x : Rec} {k : Nat} : k ∈ fl x ↔ k ∈ lbls x ∧ k ∉ x.us := by
  rw [fl, List.mem_filter]
  refine and_congr Iff.rfl ?_
  rw [Bool.not_eq_true', ← Bool.not_eq_true, memN_iff]
theorem pairwise_of {ms : List Nat} {l : List Rec} (h1 : (l.map (·.d)).Nodup) (h2 : (l.flatMap fl).Nodup) (hi : (l.map (·.i)).Pairwise (· < ·)) (h3 : ∀ x, x ∈ l → ∀ k, k ∈ x.us → ∀ y, y ∈ l → k ∈ lbls y → (x.i < y.i → k ∈ y.us ∧ mbit (ms.getD y.i 0) x.i = true) ∧ (y.i < x.i → mbit (ms.getD x.i 0) y.i = true)) : l.Pairwise (DisjW ms) := by
  induction l with
  | nil => exact .nil
  | cons x l ih =>
    rw [List.map_cons, List.nodup_cons] at h1
    rw [List.flatMap_cons, List.nodup_append] at h2
    rw [List.map_cons, List.pairwise_cons] at hi
    refine List.pairwise_cons.2 ⟨fun y hy => ⟨fun e => h1.1 (by rw [e]; exact List.mem_map.2 ⟨y, hy, rfl⟩), fun k hk hk' => ?_⟩, ih h1.2 h2.2.1 hi.2 fun x hx k hk y hy => h3 x (List.mem_cons_of_mem _ hx) k hk y (List.mem_cons_of_mem _ hy)⟩
    have hlt : x.i < y.i := hi.1 y.i (List.mem_map.2 ⟨y, hy, rfl⟩)
    by_cases hx : k ∈ x.us
    · exact (h3 x List.mem_cons_self k hx y (List.mem_cons_of_mem _ hy) hk').1 hlt
    · by_cases hy' : k ∈ y.us
      · exact ⟨hy', (h3 y (List.mem_cons_of_mem _ hy) k hy' x List.mem_cons_self hk).2 hlt⟩
      · exact absurd rfl (h2.2.2 k (fl_mem.2 ⟨hk, hx⟩) k (List.mem_flatMap.2 ⟨y, hy, fl_mem.2 ⟨hk', hy'⟩⟩))
theorem seg_sound (hS : OkS P S W0) (hcall : ∀ f g args x, callT f g args = some x → CallOk W0 P f g args x) {ops : Array Oper} {ms : List Nat} {sl : List (Nat × Nat)} (hB : Behind ops.toList ms) {Q : Exit → Act → World → Prop} {s0 : St} {recs : List Rec} {k : Nat} (hle : k + recs.length ≤ ops.size)
    (hidx : recs.map (·.i) = List.range' k recs.length) (hcut : ∀ j, k + recs.length ≤ j → j < ops.size → ∀ q, q < k + recs.length → mbit (ms.getD j 0) q = true) (hok : recsOk ms sl s0 recs = true) (hbl : ∀ x, x ∈ recs → x.st = false → nth s0.env x.d = .undef ∨ ∃ o, ops.toList[x.i]? = some o ∧ isAsg o = true ∧ o.dst = some x.d)
    (hgood : ∀ pre x post, recs = pre ++ x :: post → Good P S callT ops.toList ms sl s0 pre x)
    (hend : ∀ fuel listed a w ρ own, RelX ρ own c (sumS (fun _ => true) recs s0) a w → Done ops listed (k + recs.length) [] → ops.size - (k + recs.length) ≤ fuel → wpAny P .any ops Q fuel listed a w) :
    ∀ (u : Nat) (rem : List Nat) (fuel : Nat) (listed : Array Bool) (a : Act) (w : World) (ρ : Nat → Value) (own : Nat → Prop), rem.length = u → rem.Nodup → (∀ j, j ∈ rem → k ≤ j ∧ j < k + recs.length) → (∀ j, j < k + recs.length → j ∉ rem → ∀ q, mbit (ms.getD j 0) q = true → q ∉ rem) →
      Done ops listed (k + recs.length) rem → rem.length + (ops.size - (k + recs.length)) ≤ fuel → RelX ρ own c (sumS (fun j => !memN j rem) recs s0) a w → wpAny P .any ops Q fuel listed a w := by
  have hmem : ∀ (j : Nat) (l : List Nat), memN j l = true ↔ j ∈ l := memN_iff
  unfold recsOk at hok
  rw [Bool.and_eq_true, Bool.and_eq_true, Bool.and_eq_true, Bool.and_eq_true, Bool.and_eq_true] at hok
  obtain ⟨⟨⟨⟨⟨hd1, hd2⟩, hst⟩, hd3⟩, hd4⟩, hpinA⟩ := hok
  have hout : ∀ x, x ∈ recs → x.st = true → s0.env.length ≤ x.d := by
    intro x hx hs
    have := List.all_eq_true.1 hst x hx
    unfold stOk at this
    rw [hs, Bool.not_true, Bool.false_or, Bool.and_eq_true] at this
    simpa using this.1
  have hstore : ∀ x, x ∈ recs → ∀ k, k ∈ x.us → (x.i, k) ∈ sl ∧ ∀ y, y ∈ recs → k ∈ lbls y → (x.i < y.i → k ∈ y.us ∧ mbit (ms.getD y.i 0) x.i = true) ∧ (y.i < x.i → mbit (ms.getD x.i 0) y.i = true) := by
    intro x hx k hk
    have := List.all_eq_true.1 hst x hx
    unfold stOk at this
    rw [Bool.and_eq_true] at this
    have h3 := List.all_eq_true.1 this.2 k hk
    rw [Bool.and_eq_true] at h3
    refine ⟨memP_mem h3.1, fun y hy hky => ?_⟩
    have h4 := List.all_eq_true.1 h3.2 y hy
    rw [(hmem _ _).2 hky, Bool.not_true, Bool.false_or, Bool.or_eq_true, Bool.or_eq_true, Bool.and_eq_true, Bool.and_eq_true, Bool.and_eq_true] at h4
    rcases h4 with (q | q) | q
    · have : y.i = x.i := Nat.eq_of_beq_eq_true q
      exact ⟨fun l => by omega, fun l => by omega⟩
    · have : x.i ≤ y.i := by simpa using q.1.1
      exact ⟨fun _ => ⟨(hmem _ _).1 q.1.2, q.2⟩, fun l => by omega⟩
    · have : y.i ≤ x.i := by simpa using q.1
      exact ⟨fun l => by omega, fun _ => q.2⟩
  have hinc0 : (recs.map (·.i)).Pairwise (· < ·) := by rw [hidx]; exact List.pairwise_lt_range'
  have hpw := pairwise_of (nodupN_sound hd1) (nodupN_sound hd2) hinc0 (fun x hx k hk => (hstore x hx k hk).2)
  have hclean : ∀ x, x ∈ recs → ∀ l, l ∈ lbls x → l ∉ x.us → Clean l s0 := by
    intro x hx l hl hs
    have := List.all_eq_true.1 hd3 l (List.mem_flatMap.2 ⟨x, hx, fl_mem.2 ⟨hl, hs⟩⟩)
    rw [Bool.and_eq_true, Bool.and_eq_true] at this
    exact ⟨by simpa using this.1.1, by simpa using this.1.2, by simpa using this.2⟩
  have hblank : ∀ x y, y ∈ recs → mbit (ms.getD x 0) y.i = false → mbit (ms.getD y.i 0) x = false → Blank (hide ops.toList ms x s0) y := fun x y hy h1 h2 => by
    refine ⟨?_, fun l hl hs => (hclean y hy l hl hs).no⟩
    refine nth_blank _ _ _ ?_
    cases hs : y.st with
    | false =>
      rcases hbl y hy hs with q | ⟨o, ho, ha, hd⟩
      · exact .inr q
      · exact .inl (mem_hidL (n := 0) ho ha hd (by simpa using h1) (by simpa using h2))
    | true => exact .inr (nth_out _ _ (hout y hy hs))
  have hin : ∀ x, x ∈ recs → k ≤ x.i ∧ x.i < k + recs.length := by
    intro x hx
    have : x.i ∈ List.range' k recs.length := by rw [← hidx]; exact List.mem_map.2 ⟨x, hx, rfl⟩
    simpa using this
  have hinc : (recs.map (·.i)).Pairwise (· < ·) := by rw [hidx]; exact List.pairwise_lt_range'
  intro u
  induction u with
  | zero =>
    intro rem fuel listed a w ρ own hu _ _ _ hdone hfuel hr
    have : rem = [] := List.length_eq_zero_iff.1 hu
    subst this
    refine hend fuel listed a w ρ own ?_ hdone (by simpa using hfuel)
    rw [sum_congr (g := fun _ => true) (fun y _ => rfl)] at hr
    exact hr
  | succ u ih =>
    intro rem fuel listed a w ρ own hu hnd hin2 hcl hdone hfuel hr
    have hne : rem ≠ [] := by
      intro e
      rw [e] at hu
      cases hu
    cases fuel with
    | zero => omega
    | succ fuel =>
      refine ⟨fun e => absurd e (ready_some hB hdone (fun j hj => (hin2 j hj).2) hle (.inl hne)), fun i hi => ?_⟩
      obtain ⟨hilt, hind, o, ho, hall⟩ := ready_of hdone hi
      have hbits : ∀ q, mbit (ms.getD i 0) q = true → q < k + recs.length ∧ q ∉ rem := fun q hq => ready_bits hB hdone hcl hi hq
      have hirem : i ∈ rem := by
        rcases Nat.lt_or_ge i (k + recs.length) with q | q
        · exact Classical.byContradiction fun hn => hind ⟨q, hn⟩
        · exfalso
          obtain ⟨x, hx⟩ := List.exists_mem_of_ne_nil rem hne
          exact (hbits x (hcut i q hilt x (hin2 x hx).2)).2 hx
      have hxr : ∃ x, x ∈ recs ∧ x.i = i := by
        have : i ∈ recs.map (·.i) := by
          rw [hidx]
          have := hin2 i hirem
          simpa using this
        simpa using this
      obtain ⟨x, hx, hxi⟩ := hxr
      obtain ⟨pre, post, hsp⟩ := List.append_of_mem hx
      have hinc' := hinc
      rw [hsp, List.map_append, List.map_cons, List.pairwise_append, List.pairwise_cons] at hinc'
      have hpost : ∀ y, y ∈ post → x.i < y.i := fun y hy => hinc'.2.1.1 y.i (List.mem_map.2 ⟨y, hy, rfl⟩)
      have hpre : ∀ y, y ∈ pre → y.i < x.i := fun y hy => hinc'.2.2 y.i (List.mem_map.2 ⟨y, hy, rfl⟩) x.i List.mem_cons_self
      have hpw' := hpw
      rw [hsp, List.pairwise_append, List.pairwise_cons] at hpw'
      have hxm : x ∈ recs := hx
      have hsub : Sub (seeS sl ms x.i pre (hide ops.toList ms x.i s0)) (sumS (fun j => !memN j rem) recs s0) := by
        refine sub_see ?_
        have e : sumS (mbit (ms.getD x.i 0)) pre (hide ops.toList ms x.i s0) = sumS (mbit (ms.getD x.i 0)) recs (hide ops.toList ms x.i s0) := by
          rw [hsp, sum_append]
          have : ∀ (l : List Rec) (s : St), (∀ y, y ∈ l → x.i ≤ y.i) → sumS (mbit (ms.getD x.i 0)) l s = s := by
            intro l
            induction l with
            | nil => intro s _; rfl
            | cons y l ihl =>
              intro s hy
              rw [sumS, if_neg, ihl _ (fun z hz => hy z (List.mem_cons_of_mem _ hz))]
              intro q
              have := hB.lt _ _ q
              have := hy y List.mem_cons_self
              omega
          rw [this (x :: post) _ (fun y hy => ?_)]
          rcases List.mem_cons.1 hy with q | q
          · rw [q]
            exact Nat.le_refl _
          · exact Nat.le_of_lt (hpost y q)
        rw [e]
        refine sub_sum ⟨fun t => blank_or _ _ t, fun _ _ _ h => h⟩ (len_blank _ _) (fun y hy hb => ?_) (fun y hy hf hg l hl hys => ?_) (fun y hy hf hg => hblank x.i y hy hf ?_) hpw
        · have := (hbits y.i (by rw [← hxi]; exact hb)).2
          cases hq : memN y.i rem with
          | false => rfl
          | true => exact absurd ((hmem _ _).1 hq) this
        · have hyi : y.i ∉ rem := by
            intro q
            rw [(hmem _ _).2 q] at hg
            cases hg
          refine mem_unord (hstore y hy l hys).1 (fun e => hyi (by rw [e, hxi]; exact hirem)) hf ?_
          cases hq : mbit (ms.getD y.i 0) x.i with
          | false => rfl
          | true => exact absurd hirem (by rw [← hxi]; exact hcl y.i (hin y hy).2 hyi x.i hq)
        · have hyi : y.i ∉ rem := by
            intro q
            rw [(hmem _ _).2 q] at hg
            cases hg
          cases hq : mbit (ms.getD y.i 0) x.i with
          | false => rfl
          | true => exact absurd hirem (by rw [← hxi]; exact hcl y.i (hin y hy).2 hyi x.i hq)
      have hnext : ∀ (m : St) (a' : Act) (w' : World) (ρ' : Nat → Value) (own' : Nat → Prop), RelX ρ' own' c ((sumS (fun j => !memN j rem) recs s0).app x) a' w' → wpAny P .any ops Q fuel (listed.setIfInBounds i true) a' w' := by
        intro _ a' w' ρ' own' hr'
        have herase : ∀ j, j ∈ rem.erase i ↔ j ≠ i ∧ j ∈ rem := fun j => hnd.mem_erase_iff
        refine ih (rem.erase i) fuel _ a' w' ρ' own' (by rw [List.length_erase_of_mem hirem, hu]; rfl) (hnd.erase i) (fun j hj => hin2 j ((herase j).1 hj).2) (fun j hj hjn q hq => ?_) (hdone.set hilt fun j => ?_) (by rw [List.length_erase_of_mem hirem]; omega) ?_
        · by_cases e : j = i
          · subst e
            exact fun hqr => (hbits q hq).2 ((herase q).1 hqr).2
          · exact fun hqr => hcl j hj (fun hjr => hjn ((herase j).2 ⟨e, hjr⟩)) q hq ((herase q).1 hqr).2
        · rw [herase]
          have := hin2 i hirem
          constructor
          · rintro ⟨h1, h2⟩
            by_cases e : j = i
            · exact .inl e
            · exact .inr ⟨h1, fun q => h2 ⟨e, q⟩⟩
          · rintro (rfl | ⟨h1, h2⟩)
            · exact ⟨this.2, fun q => q.1 rfl⟩
            · exact ⟨h1, fun q => h2 q.2⟩
        · refine hr'.congr (Eqv.symm ?_)
          have hcong : ∀ y : Rec, y.i ≠ i → (!memN y.i rem) = !memN y.i (rem.erase i) := by
            intro y hy
            congr 1
            rw [Bool.eq_iff_iff, hmem, hmem, herase]
            exact ⟨fun q => ⟨hy, q⟩, fun q => q.2⟩
          rw [hsp]
          refine sum_insert (fun y hy hg => ?_) ?_ ?_ (fun y hy => hcong y (by have := hpre y hy; omega)) (fun y hy => hcong y (by have := hpost y hy; omega))
          · have hw := hpw'.2.1.1 y hy
            refine ⟨hw.d, fun l hl hl' => ?_⟩
            obtain ⟨_, hb⟩ := hw.l l hl hl'
            have hyr : y ∈ recs := by rw [hsp]; exact List.mem_append_right _ (List.mem_cons_of_mem _ hy)
            have hyi : y.i ∉ rem := by
              intro q
              have : y.i ∈ rem.erase i := (herase y.i).2 ⟨by have := hpost y hy; omega, q⟩
              rw [(hmem _ _).2 this] at hg
              cases hg
            exact absurd hirem (by rw [← hxi]; exact hcl y.i (hin y hyr).2 hyi x.i hb)
          · rw [hxi, (hmem _ _).2 hirem]
            rfl
          · cases hq : memN x.i (rem.erase i) with
            | false => rfl
            | true => exact absurd hxi (((herase _).1 ((hmem _ _).1 hq)).1)
      obtain ⟨o', ho', hg⟩ := hgood pre x post hsp
      have hoo : o' = o := by
        rw [hxi, Array.getElem?_toList, ho] at ho'
        exact (Option.some.inj ho').symm
      subst hoo
      have hxr : x ∈ recs := hxm
      unfold wpOp
      rw [ho]
      simp only
      rcases hg with ⟨hdst, hgd, hs, hxp, lab, bb, hnb, hxus, hev⟩ | ⟨hdst, hs, hg⟩
      · obtain ⟨hlab, hev⟩ := hev _ hsub
        rw [if_pos (by simp [Region.wanted, hgd])]
        refine .inl (evOp_sound hS hcall hr hev fun ρ' own' p v s' w' hK hR hv => ?_)
        cases hK
        rw [hdst]
        refine hnext s0 _ _ ρ' own' (RelX.congr hR ⟨?_, fun id => ?_⟩)
        · have hlen : ∀ (l : List Rec) (s : St), (sumS (fun j => !memN j rem) l s).env.length = s.env.length := by
            intro l
            induction l with
            | nil => intro s; rfl
            | cons y l ihl =>
              intro s
              rw [sumS]
              split
              · rw [ihl]
                exact len_put _ _ _
              · exact ihl s
          have hge := hout x hxr hs
          exact (put_out _ _ _ (by rw [hlen]; exact hge)).symm
        · have hgone : gone x = [] := by simp [gone, hxus, hnb, memN]
          show look id (setb lab bb _) = look id (x.nb ++ dropL (gone x) _)
          rw [hgone, dropL]
          rw [look_set, hnb, look_append, look, look]
          by_cases e : id = lab
          · obtain ⟨b0, hb0⟩ := Option.isSome_iff_exists.1 hlab
            rw [if_pos e, hb0, e, if_pos (Nat.beq_refl _)]
            rfl
          · rw [if_neg e, if_neg (fun q => e (Nat.eq_of_beq_eq_true q).symm)]
      rcases hg _ hsub with ⟨hgd, hev⟩ | ⟨j, want, t, hgd, ht, hbb, hp, hnb, hxus⟩
      · have hw : Region.wanted o' (yielded ops a.tmps) = true := by
          rcases hgd with hgd | ⟨j, want, t, hgd, ht, hb⟩
          · simp [Region.wanted, hgd]
          · simp [Region.wanted, hgd, yielded_of hr ht hb]
        rw [if_pos hw]
        obtain ⟨sto', hsto, hev⟩ := hev fun l hl hlu => clean_sum (hclean x hx l hl hlu) fun y hy hyr => by
          have hyi : y.i ∉ rem := by
            intro q
            rw [(hmem _ _).2 q] at hyr
            cases hyr
          have hm := List.all_eq_true.1 (List.all_eq_true.1 hd4 x hx) y hy
          unfold meets at hm
          have hm := List.all_eq_true.1 hm l (fl_mem.2 ⟨hl, hlu⟩)
          rw [Bool.or_eq_true, Bool.or_eq_true] at hm
          have hne2 : x.i ≠ y.i := fun e => hyi (by rw [← e, hxi]; exact hirem)
          have h1 : (holds l y.p || holdsB l y.nb) = false := by
            rcases hm with (q | q) | q
            · simpa using q
            · exact absurd (by simpa using q) hne2
            · exact absurd hirem (by rw [← hxi]; exact hcl y.i (hin y hy).2 hyi x.i q)
          rw [Bool.or_eq_false_iff] at h1
          refine ⟨h1.1, h1.2, ?_⟩
          intro hl'
          rw [hsp] at hy
          rcases List.mem_append.1 hy with q | q
          · exact hlu ((hpw'.2.2 y q x List.mem_cons_self).l l hl' hl).1
          · rcases List.mem_cons.1 q with q | q
            · exact hne2 (by rw [q])
            · have hb := ((hpw'.2.1.1 y q).l l hl hl').2
              have hyr : y ∈ recs := by rw [hsp]; exact hy
              exact absurd hirem (by rw [← hxi]; exact hcl y.i (hin y hyr).2 hyi x.i hb)
        refine .inl (evOp_sound hS hcall hr hev fun ρ' own' p v s' w' hK hR hv => ?_)
        cases hK
        rw [hdst]
        have hpa : pinAt x.d x.p = false := by
          have := List.all_eq_true.1 hpinA x hxm
          simpa using this
        have hput := hR.puto (some x.d) hv
        simp only [St.puto, unpin_of hpa] at hput
        exact hnext s0 _ _ _ _ (hput.congr ⟨rfl, hsto⟩)
      · have hw : ¬ Region.wanted o' (yielded ops a.tmps) = true := by
          rcases hbb with ⟨b, hb, hbw⟩ | hv
          · simp [Region.wanted, hgd, yielded_of hr ht hb, hbw]
          · simp [Region.wanted, hgd, yielded_void hr ht hv]
        rw [if_neg hw, hdst]
        refine hnext s0 _ _ ρ own ?_
        have : (sumS (fun j => !memN j rem) recs s0).app x = (sumS (fun j => !memN j rem) recs s0).puto (some x.d) (.tuple []) := by
          have hgone : gone x = [] := by simp [gone, hxus]
          unfold St.app
          rw [hgone, hp, hnb]
          rfl
        rw [this]
        exact hr.puto _ VR_void
end
end Go.Proofs.Ytbaekdcacmoniaa.Pv
