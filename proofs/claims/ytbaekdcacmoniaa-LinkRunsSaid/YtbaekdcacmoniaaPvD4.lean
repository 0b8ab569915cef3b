/- Sums of what operations have come to: order does not matter; a part knows less than the whole. -/
import Derived.Test.YtbaekdcacmoniaaPvD3
namespace Go.Proofs.Ytbaekdcacmoniaa.Pv
open Go Go.RowKit

structure Disj (x y : Rec) : Prop where
  d : x.d ≠ y.d
  l : ∀ k, k ∈ lbls x → k ∉ lbls y
theorem Disj.symm {x y : Rec} (h : Disj x y) : Disj y x := ⟨fun e => h.d e.symm, fun k hk hk' => h.l k hk' hk⟩
theorem put_comm : ∀ (l : List PV) (i j : Nat) (p q : PV), i ≠ j → put (put l i p) j q = put (put l j q) i p
  | [], _, _, _, _, _ => rfl
  | x :: l, 0, 0, p, q, h => absurd rfl h
  | x :: l, 0, j + 1, p, q, h => rfl
  | x :: l, i + 1, 0, p, q, h => rfl
  | x :: l, i + 1, j + 1, p, q, h => by
    simp only [put]
    rw [put_comm l i j p q (fun e => h (by rw [e]))]
theorem put_out : ∀ (l : List PV) (n : Nat) (v : PV), l.length ≤ n → put l n v = l
  | [], _, _, _ => rfl
  | x :: l, 0, v, h => by simp at h
  | x :: l, n + 1, v, h => by rw [put, put_out l n v (by simpa using h)]
theorem look_dropL (id : Nat) : ∀ (ks : List Nat) (l : List (Nat × Blk)), look id (dropL ks l) = if id ∈ ks then none else look id l
  | [], l => by simp [dropL]
  | k :: ks, l => by
    rw [dropL, look_dropL id ks, look_dropb]
    by_cases h : id ∈ ks
    · rw [if_pos h, if_pos (List.mem_cons_of_mem _ h)]
    · rw [if_neg h]
      by_cases e : id = k
      · rw [if_pos e, if_pos (by rw [e]; exact List.mem_cons_self)]
      · rw [if_neg e, if_neg (fun q => (List.mem_cons.1 q).elim e h)]
theorem look_app {s : St} {r : Rec} {id : Nat} (h : id ∉ lbls r) : look id (s.app r).sto = look id s.sto := by
  show look id (r.nb ++ dropL (gone r) s.sto) = _
  rw [look_append, look_none (fun q => h (List.mem_append_left _ q)), look_dropL, if_neg (fun q => h (List.mem_append_right _ q))]
theorem look_app_mem {s : St} {r : Rec} {id : Nat} (h : id ∈ lbls r) : look id (s.app r).sto = look id r.nb := by
  show look id (r.nb ++ dropL (gone r) s.sto) = _
  rw [look_append]
  cases e : look id r.nb with
  | some b => rfl
  | none =>
    have : ∀ l : List (Nat × Blk), id ∈ l.map (·.1) → look id l ≠ none := by
      intro l hl
      induction l with
      | nil => cases hl
      | cons a l ih =>
        obtain ⟨j, b⟩ := a
        rw [look]
        split
        · nofun
        · rename_i hj
          rw [List.map_cons, List.mem_cons] at hl
          rcases hl with q | q
          · exact absurd (by rw [q]; exact Nat.beq_refl j) hj
          · exact ih q
    rcases List.mem_append.1 h with q | q
    · exact absurd e (this _ q)
    · show look id (dropL (gone r) s.sto) = none
      rw [look_dropL, if_pos q]
theorem app_comm {s : St} {x y : Rec} (h : Disj x y) : Eqv ((s.app x).app y) ((s.app y).app x) := by
  refine ⟨put_comm _ _ _ _ _ h.d, fun id => ?_⟩
  by_cases hx : id ∈ lbls x
  · rw [look_app (h.l id hx), look_app_mem hx, look_app_mem hx]
  · by_cases hy : id ∈ lbls y
    · rw [look_app_mem hy, look_app hx, look_app_mem hy]
    · rw [look_app hy, look_app hx, look_app hx, look_app hy]
theorem Eqv.app {s m : St} (h : Eqv s m) (x : Rec) : Eqv (s.app x) (m.app x) := by
  refine ⟨by show put s.env _ _ = put m.env _ _; rw [h.env], fun id => ?_⟩
  by_cases hx : id ∈ lbls x
  · rw [look_app_mem hx, look_app_mem hx]
  · rw [look_app hx, look_app hx, h.sto]
theorem Eqv.sum {f : Nat → Bool} : ∀ {rs : List Rec} {s m : St}, Eqv s m → Eqv (sumS f rs s) (sumS f rs m)
  | [], _, _, h => h
  | r :: rs, s, m, h => by
    rw [sumS, sumS]
    split
    · exact (h.app r).sum
    · exact h.sum
theorem sum_comm {f : Nat → Bool} {x : Rec} : ∀ {rs : List Rec} {s : St}, (∀ y, y ∈ rs → f y.i = true → Disj x y) → Eqv (sumS f rs (s.app x)) ((sumS f rs s).app x)
  | [], s, _ => Eqv.refl _
  | r :: rs, s, h => by
    rw [sumS, sumS]
    split
    · rename_i hf
      exact (app_comm (h r List.mem_cons_self hf)).sum.trans (sum_comm fun y hy => h y (List.mem_cons_of_mem _ hy))
    · exact sum_comm fun y hy => h y (List.mem_cons_of_mem _ hy)
theorem sum_congr {f g : Nat → Bool} : ∀ {rs : List Rec} {s : St}, (∀ y, y ∈ rs → f y.i = g y.i) → sumS f rs s = sumS g rs s
  | [], _, _ => rfl
  | r :: rs, s, h => by
    rw [sumS, sumS, h r List.mem_cons_self, sum_congr (rs := rs) fun y hy => h y (List.mem_cons_of_mem _ hy), sum_congr (rs := rs) fun y hy => h y (List.mem_cons_of_mem _ hy)]
theorem sum_append {f : Nat → Bool} : ∀ {rs ts : List Rec} {s : St}, sumS f (rs ++ ts) s = sumS f ts (sumS f rs s)
  | [], _, _ => rfl
  | r :: rs, ts, s => by
    rw [List.cons_append, sumS, sumS]
    split
    · exact sum_append
    · exact sum_append
/-- One more. -/
theorem sum_insert {f g : Nat → Bool} {pre post : List Rec} {x : Rec} {s : St} (hd : ∀ y, y ∈ post → g y.i = true → Disj x y) (hf : f x.i = false) (hg : g x.i = true) (hpre : ∀ y, y ∈ pre → f y.i = g y.i) (hpost : ∀ y, y ∈ post → f y.i = g y.i) :
    Eqv (sumS g (pre ++ x :: post) s) ((sumS f (pre ++ x :: post) s).app x) := by
  rw [sum_append, sum_append, sumS, sumS, hg, hf, if_pos rfl, if_neg Bool.false_ne_true, sum_congr (g := g) hpre, sum_congr (f := f) (g := g) hpost]
  exact sum_comm hd
/-- Two of a longer part: a store may come behind what made its block, and behind a store to it. -/
structure DisjW (ms : List Nat) (x y : Rec) : Prop where
  d : x.d ≠ y.d
  l : ∀ k, k ∈ lbls x → k ∈ lbls y → k ∈ y.us ∧ mbit (ms.getD y.i 0) x.i = true
structure Blank (s : St) (x : Rec) : Prop where
  d : nth s.env x.d = .undef
  l : ∀ k, k ∈ lbls x → k ∉ x.us → look k s.sto = none
theorem Blank.app {ms : List Nat} {s : St} {x y : Rec} (h : Blank s x) (hd : DisjW ms y x) : Blank (s.app y) x := by
  refine ⟨?_, fun k hk hx => ?_⟩
  · show nth (put s.env y.d y.p) x.d = _
    rw [nth_put, if_neg (fun e => hd.d e.1.symm)]
    exact h.d
  · rw [look_app (fun q => hx (hd.l k q hk).1)]
    exact h.l k hk hx
/-- s knows less than m, but for some labels. -/
structure SubW (W : Nat → Prop) (s m : St) : Prop where
  env : ∀ t, nth s.env t = .undef ∨ nth s.env t = nth m.env t
  sto : ∀ id b, ¬ W id → look id s.sto = some b → look id m.sto = some b
theorem SubW.app {W : Nat → Prop} {s m : St} (h : SubW W s m) (hl : s.env.length = m.env.length) (x : Rec) : SubW W (s.app x) (m.app x) := by
  refine ⟨fun t => ?_, fun id b hw hb => ?_⟩
  · show nth (put s.env x.d x.p) t = _ ∨ nth (put s.env x.d x.p) t = nth (put m.env x.d x.p) t
    rw [nth_put, nth_put, hl]
    split
    · exact .inr rfl
    · exact h.env t
  · by_cases hx : id ∈ lbls x
    · rw [look_app_mem hx] at hb ⊢
      exact hb
    · rw [look_app hx] at hb ⊢
      exact h.sto id b hw hb
theorem SubW.skip {W : Nat → Prop} {s m : St} (h : SubW W s m) {x : Rec} (hb : Blank s x) (hw : ∀ k, k ∈ lbls x → k ∈ x.us → W k) : SubW W s (m.app x) := by
  refine ⟨fun t => ?_, fun id b hn hl => ?_⟩
  · show nth s.env t = _ ∨ nth s.env t = nth (put m.env x.d x.p) t
    rw [nth_put]
    split
    · rename_i e
      rw [e.1]
      exact .inl hb.d
    · exact h.env t
  · by_cases hx : id ∈ lbls x
    · by_cases hs : id ∈ x.us
      · exact absurd (hw id hx hs) hn
      · rw [hb.l id hx hs] at hl
        cases hl
    · rw [look_app hx]
      exact h.sto id b hn hl
theorem sub_sum {ms : List Nat} {W : Nat → Prop} {f g : Nat → Bool} : ∀ {rs : List Rec} {s m : St}, SubW W s m → s.env.length = m.env.length → (∀ y, y ∈ rs → f y.i = true → g y.i = true) → (∀ y, y ∈ rs → f y.i = false → g y.i = true → ∀ k, k ∈ lbls y → k ∈ y.us → W k) → (∀ y, y ∈ rs → f y.i = false → g y.i = true → Blank s y) → rs.Pairwise (DisjW ms) → SubW W (sumS f rs s) (sumS g rs m)
  | [], s, m, h, _, _, _, _, _ => h
  | r :: rs, s, m, h, hl, hfg, hw, hb, hp => by
    rw [List.pairwise_cons] at hp
    rw [sumS, sumS]
    by_cases hf : f r.i = true
    · rw [if_pos hf, if_pos (hfg r List.mem_cons_self hf)]
      exact sub_sum (h.app hl r) (by show (put _ _ _).length = (put _ _ _).length; rw [len_put, len_put, hl]) (fun y hy => hfg y (List.mem_cons_of_mem _ hy)) (fun y hy => hw y (List.mem_cons_of_mem _ hy)) (fun y hy q1 q2 => (hb y (List.mem_cons_of_mem _ hy) q1 q2).app (hp.1 y hy)) hp.2
    · rw [if_neg hf]
      split
      · rename_i hg
        exact sub_sum (h.skip (hb r List.mem_cons_self (by simpa using hf) hg) (hw r List.mem_cons_self (by simpa using hf) hg)) (by show _ = (put _ _ _).length; rw [len_put, hl]) (fun y hy => hfg y (List.mem_cons_of_mem _ hy)) (fun y hy => hw y (List.mem_cons_of_mem _ hy)) (fun y hy => hb y (List.mem_cons_of_mem _ hy)) hp.2
      · exact sub_sum h hl (fun y hy => hfg y (List.mem_cons_of_mem _ hy)) (fun y hy => hw y (List.mem_cons_of_mem _ hy)) (fun y hy => hb y (List.mem_cons_of_mem _ hy)) hp.2
theorem sub_less {ks : List Nat} {s m : St} (h : SubW (fun k => k ∈ ks) s m) : Sub (s.less ks) m := by
  refine ⟨h.env, fun id b hb => ?_⟩
  have hb' : look id (dropL ks s.sto) = some b := hb
  rw [look_dropL] at hb'
  split at hb'
  · cases hb'
  · rename_i hn
    exact h.sto id b hn hb'
theorem see_env {sl : List (Nat × Nat)} {ms : List Nat} {i : Nat} {recs : List Rec} {s : St} : (seeS sl ms i recs s).env = (sumS (mbit (ms.getD i 0)) recs s).env := by
  cases sl <;> rfl
theorem sub_see {sl : List (Nat × Nat)} {ms : List Nat} {i : Nat} {recs : List Rec} {s m : St} (h : SubW (fun k => k ∈ unord ms i sl) (sumS (mbit (ms.getD i 0)) recs s) m) : Sub (seeS sl ms i recs s) m := by
  cases sl with
  | nil => exact ⟨h.env, fun id b hb => h.sto id b (by rw [unord]; exact List.not_mem_nil) hb⟩
  | cons a l => exact sub_less h
theorem mem_unord {ms : List Nat} {i j l : Nat} : ∀ {sl : List (Nat × Nat)}, (j, l) ∈ sl → j ≠ i → mbit (ms.getD i 0) j = false → mbit (ms.getD j 0) i = false → l ∈ unord ms i sl
  | [], h, _, _, _ => by cases h
  | (j', l') :: sl, h, h1, h2, h3 => by
    rw [unord]
    rcases List.mem_cons.1 h with q | q
    · cases q
      rw [if_neg]
      · exact List.mem_cons_self
      · rw [h2, h3]
        simpa using h1
    · split
      · exact mem_unord q h1 h2 h3
      · exact List.mem_cons_of_mem _ (mem_unord q h1 h2 h3)
theorem memP_mem {i l : Nat} : ∀ {sl : List (Nat × Nat)}, memP i l sl = true → (i, l) ∈ sl
  | [], h => by cases h
  | (j, k) :: sl, h => by
    rw [memP, Bool.or_eq_true, Bool.and_eq_true] at h
    rcases h with ⟨a, b⟩ | h
    · rw [Nat.eq_of_beq_eq_true a, Nat.eq_of_beq_eq_true b]
      exact List.mem_cons_self
    · exact List.mem_cons_of_mem _ (memP_mem h)
theorem Sub.refl (s : St) : Sub s s := ⟨fun _ => .inr rfl, fun _ _ h => h⟩
/-- A label stays free while those that hold it are not there. -/
theorem holdsL_put {l : Nat} : ∀ {e : List PV} {d : Nat} {p : PV}, holdsL l e = false → holds l p = false → holdsL l (put e d p) = false
  | [], _, _, h, _ => h
  | x :: e, 0, p, h, hp => by
    rw [holdsL, Bool.or_eq_false_iff] at h
    rw [put, holdsL, hp, h.2]
    rfl
  | x :: e, d + 1, p, h, hp => by
    rw [holdsL, Bool.or_eq_false_iff] at h
    rw [put, holdsL, h.1, holdsL_put h.2 hp]
    rfl
theorem holdsB_dropL {l : Nat} : ∀ {ks : List Nat} {st : List (Nat × Blk)}, holdsB l st = false → holdsB l (dropL ks st) = false
  | [], _, h => h
  | k :: ks, st, h => holdsB_dropL (ks := ks) (st := dropb k st) (holdsB_dropb h)
theorem Clean.app {l : Nat} {s : St} {x : Rec} (h : Clean l s) (hp : holds l x.p = false) (hb : holdsB l x.nb = false) (hl : l ∉ lbls x) : Clean l (s.app x) := by
  refine ⟨holdsL_put h.env hp, ?_, (look_app hl).trans h.no⟩
  show holdsB l (x.nb ++ dropL (gone x) s.sto) = false
  rw [holdsB_append, hb, holdsB_dropL h.sto]
  rfl
theorem clean_sum {l : Nat} {f : Nat → Bool} : ∀ {rs : List Rec} {s : St}, Clean l s → (∀ y, y ∈ rs → f y.i = true → holds l y.p = false ∧ holdsB l y.nb = false ∧ l ∉ lbls y) → Clean l (sumS f rs s)
  | [], _, h, _ => h
  | r :: rs, s, h, hy => by
    rw [sumS]
    split
    · rename_i hf
      obtain ⟨h1, h2, h3⟩ := hy r List.mem_cons_self hf
      exact clean_sum (h.app h1 h2 h3) fun y q => hy y (List.mem_cons_of_mem _ q)
    · exact clean_sum h fun y q => hy y (List.mem_cons_of_mem _ q)
end Go.Proofs.Ytbaekdcacmoniaa.Pv
