/- An operation of a longer part, carried out by the machine in any state that knows as much. -/
import Derived.Test.YtbaekdcacmoniaaPvD1
namespace Go.Proofs.Ytbaekdcacmoniaa.Pv
open Go Go.RowKit

theorem forgetB_id (id : Nat) : ∀ {l : List (Nat × Blk)}, holdsB id l = false → forgetB id l = l
  | [], _ => rfl
  | (_, .box _ cs) :: r, h => by
    rw [holdsB, Bool.or_eq_false_iff] at h
    rw [forgetB, forgetL_id id h.1, forgetB_id id h.2]
  | (_, .row _ _ _) :: r, h => by
    rw [holdsB] at h
    rw [forgetB, forgetB_id id h]
  | (_, .map _ _ _) :: r, h => by
    rw [holdsB] at h
    rw [forgetB, forgetB_id id h]
  | (_, .deep _ _ _ _ _) :: r, h => by
    rw [holdsB] at h
    rw [forgetB, forgetB_id id h]
theorem dropb_id (id : Nat) : ∀ {l : List (Nat × Blk)}, look id l = none → dropb id l = l
  | [], _ => rfl
  | (j, c) :: r, h => by
    rw [look] at h
    split at h
    · cases h
    · rename_i hj
      rw [dropb, if_neg hj, dropb_id id h]
mutual
theorem noOwn1 : ∀ {p : PV}, holdsOwn p = false → ownIds p = []
  | .own _, h => by rw [holdsOwn] at h; cases h
  | .ref _ _, h => by rw [holdsOwn] at h; cases h
  | .oelem _ _ _ _, h => by rw [holdsOwn] at h; cases h
  | .deep _, h => by rw [holdsOwn] at h; cases h
  | .delem _ _, h => by rw [holdsOwn] at h; cases h
  | .sub _ _, h => by rw [holdsOwn] at h; cases h
  | .cref cs _, h => by rw [holdsOwn] at h; rw [ownIds]; exact noOwn h
  | .func _ cs, h => by rw [holdsOwn] at h; rw [ownIds]; exact noOwn h
  | .agg cs, h => by rw [holdsOwn] at h; rw [ownIds]; exact noOwn h
  | .tuple cs, h => by rw [holdsOwn] at h; rw [ownIds]; exact noOwn h
  | .undef, _ => rfl
  | .int _ _, _ => rfl
  | .bool _, _ => rfl
  | .str _, _ => rfl
  | .nils, _ => rfl
  | .empt, _ => rfl
  | .zrow, _ => rfl
  | .row _ _ _, _ => rfl
  | .nilp, _ => rfl
  | .elem _ _ _, _ => rfl
  | .nilf, _ => rfl
theorem noOwn : ∀ {ps : List PV}, holdsOwnL ps = false → ownIdsL ps = []
  | [], _ => rfl
  | p :: ps, h => by
    rw [holdsOwnL, Bool.or_eq_false_iff] at h
    rw [ownIdsL, noOwn1 h.1, noOwn h.2]
    rfl
end
/-- Nobody speaks of the label. -/
structure Clean (id : Nat) (s : St) : Prop where
  env : holdsL id s.env = false
  sto : holdsB id s.sto = false
  no : look id s.sto = none
theorem Clean.add {id : Nat} {s : St} (h : Clean id s) (b : Blk) : s.add id b = ⟨s.env, (id, b) :: s.sto⟩ := by
  unfold St.add
  rw [forgetL_id id h.env, forgetB_id id h.sto, dropb_id id h.no]
section
variable {R : Type} {r : R} {P : Program} {S : List (FuncId × FSig)} {callT : (f : FuncId) → (g : FSig) → List PV → Option g.res.den} {s m : St}
theorem evConv_sub {src dst : TypeId} {x : PV} {K : PV → St → Option R} (q : evConv P s src dst x K = some r) : ∃ p, K p s = some r ∧ ∀ m, Sub s m → ∀ {R' : Type} (K' : PV → St → Option R'), evConv P m src dst x K' = K' p m := by
  unfold evConv at q
  split at q
  · rename_i k k' n h1 h2
    exact ⟨_, q, fun m h R' K' => by simp only [evConv, h1, h2]⟩
  · rename_i n h1 h2
    exact ⟨_, q, fun m h R' K' => by simp only [evConv, h1, h2]⟩
  · rename_i e h1 h2
    split at q
    · rename_i l hu hl
      exact ⟨_, q, fun m h R' K' => by simp only [evConv, h1, h2, hu, contents_sub h hl]⟩
    · cases q
  · rename_i e n h1 h2
    split at q
    · rename_i hu
      split at q
      · rename_i hn
        exact ⟨_, q, fun m h R' K' => by simp only [evConv, h1, h2, hu, if_pos hn]⟩
      · cases q
    · cases q
  · cases q
theorem bound_both {lo hi : Int} {n : Option PV} {d : Int} {K : Int → Option R} (q : bound lo hi n d K = some r) : ∃ i, K i = some r ∧ ∀ {R' : Type} (K' : Int → Option R'), bound lo hi n d K' = K' i := by
  rw [bound_bind, Option.bind_eq_some_iff] at q
  obtain ⟨i, h1, h2⟩ := q
  exact ⟨i, h2, fun K' => by rw [bound_bind, h1]; rfl⟩
theorem evSlice_sub {d : Nat} {t : TypeId} {x : PV} {lo hi : Option PV} (hx : ∀ id, x ≠ .own id) {K : PV → St → Option R} (q : evSlice P s d t x lo hi K = some r) : ∃ p, K p s = some r ∧ ∀ (m : St) {R' : Type} (K' : PV → St → Option R'), evSlice P m d t x lo hi K' = K' p m := by
  unfold evSlice at q
  split at q
  · rename_i hu
    split at q
    · obtain ⟨i, q, b1⟩ := bound_both q
      obtain ⟨j, q, b2⟩ := bound_both q
      exact ⟨_, q, fun m R' K' => by simp only [evSlice, hu, b1, b2]⟩
    · cases q
  · rename_i e hu
    split at q
    · split at q
      · rename_i hs
        obtain ⟨i, q, b1⟩ := bound_both q
        obtain ⟨j, q, b2⟩ := bound_both q
        exact ⟨_, q, fun m R' K' => by simp only [evSlice, hu, if_pos hs, b1, b2]⟩
      · cases q
    · split at q
      · rename_i hs
        obtain ⟨i, q, b1⟩ := bound_both q
        obtain ⟨j, q, b2⟩ := bound_both q
        exact ⟨_, q, fun m R' K' => by simp only [evSlice, hu, if_pos hs, b1, b2]⟩
      · cases q
    · exact absurd rfl (hx _)
    · cases q
  · cases q
theorem holdsB_row (id b : Nat) (e : TypeId) (t : Ty) (l : List t.den) : holdsB id [(b, rowB e t l)] = false := by
  rcases rowB_cases e t l with ⟨e1, _⟩ | ⟨e', t', rfl⟩
  · rw [e1]
    rfl
  · rfl
theorem resL_le : ∀ (t : Ty) (x : t.den) (b : Nat), b ≤ (resL t x b).2.1 ∧ (∀ l, l ∈ (resL t x b).2.2.map (·.1) → b ≤ l ∧ l < (resL t x b).2.1) ∧ ∀ id, holdsB id (resL t x b).2.2 = false
  | .int _, _, b => ⟨Nat.le_refl _, fun l hl => (by simp [resL] at hl), fun _ => rfl⟩
  | .bool, _, b => ⟨Nat.le_refl _, fun l hl => (by simp [resL] at hl), fun _ => rfl⟩
  | .str, _, b => ⟨Nat.le_refl _, fun l hl => (by simp [resL] at hl), fun _ => rfl⟩
  | .list true e t, l, b => ⟨Nat.le_succ _, fun l hl => (by simp [resL] at hl ⊢; omega), fun id => holdsB_row id b e t l⟩
  | .list false e t, l, b => ⟨Nat.le_refl _, fun l hl => (by simp [resL] at hl), fun _ => rfl⟩
  | .prod x y, p, b => by
    obtain ⟨h1, h2, h3⟩ := resL_le x p.1 b
    obtain ⟨h4, h5, h6⟩ := resL_le y p.2 (resL x p.1 b).2.1
    refine ⟨Nat.le_trans h1 h4, fun l hl => ?_, fun id => ?_⟩
    · have hl' : l ∈ ((resL y p.2 (resL x p.1 b).2.1).2.2 ++ (resL x p.1 b).2.2).map (·.1) := hl
      rw [List.map_append, List.mem_append] at hl'
      show b ≤ l ∧ l < (resL y p.2 (resL x p.1 b).2.1).2.1
      rcases hl' with q | q
      · have := h5 l q
        omega
      · have := h2 l q
        omega
    · show holdsB id ((resL y p.2 (resL x p.1 b).2.1).2.2 ++ (resL x p.1 b).2.2) = false
      have app : ∀ l k : List (Nat × Blk), holdsB id (l ++ k) = (holdsB id l || holdsB id k) := by
        intro l k
        induction l with
        | nil => simp [holdsB]
        | cons a l ih =>
          obtain ⟨i, b⟩ := a
          cases b <;> simp [holdsB, ih, Bool.or_assoc]
      rw [app, h6, h3]
      rfl
  | .unit, _, b => ⟨Nat.le_refl _, fun l hl => (by simp [resL] at hl), fun _ => rfl⟩
  | .tag _ _ _, _, b => ⟨Nat.le_refl _, fun l hl => (by simp [resL] at hl), fun _ => rfl⟩
theorem holdsB_append (id : Nat) (l k : List (Nat × Blk)) : holdsB id (l ++ k) = (holdsB id l || holdsB id k) := by
  induction l with
  | nil => simp [holdsB]
  | cons a l ih =>
    obtain ⟨i, b⟩ := a
    cases b <;> simp [holdsB, ih, Bool.or_assoc]
theorem look_append (id : Nat) : ∀ (l k : List (Nat × Blk)), look id (l ++ k) = (match look id l with | some b => some b | none => look id k)
  | [], k => rfl
  | (j, b) :: l, k => by
    rw [List.cons_append, look, look]
    split
    · rfl
    · exact look_append id l k
theorem look_none {id : Nat} : ∀ {l : List (Nat × Blk)}, id ∉ l.map (·.1) → look id l = none
  | [], _ => rfl
  | (j, b) :: l, h => by
    rw [List.map_cons, List.mem_cons, not_or] at h
    rw [look, if_neg (fun e => h.1 (by simpa using (show j = id by simpa using e).symm))]
    exact look_none h.2
theorem resCells_clean : ∀ (t : Ty) (x : t.den) (b : Nat) (m : St) (K : List PV → Nat → St → Option R), (∀ l, l ∈ (resL t x b).2.2.map (·.1) → Clean l m) →
    resCells t x b m K = K (resL t x b).1 (resL t x b).2.1 ⟨m.env, (resL t x b).2.2 ++ m.sto⟩
  | .int _, _, b, m, K, _ => rfl
  | .bool, _, b, m, K, _ => rfl
  | .str, _, b, m, K, _ => rfl
  | .list true e t, l, b, m, K, h => by
    rw [resCells, (h b (by simp [resL])).add]
    rfl
  | .list false e t, l, b, m, K, _ => rfl
  | .prod x y, p, b, m, K, h => by
    have hl : ∀ l, l ∈ ((resL y p.2 (resL x p.1 b).2.1).2.2 ++ (resL x p.1 b).2.2).map (·.1) → Clean l m := h
    rw [List.map_append] at hl
    rw [resCells, resCells_clean x p.1 b m _ (fun l q => hl l (List.mem_append_right _ q))]
    obtain ⟨h1, h2, h3⟩ := resL_le x p.1 b
    obtain ⟨h4, h5, h6⟩ := resL_le y p.2 (resL x p.1 b).2.1
    rw [resCells_clean y p.2 (resL x p.1 b).2.1 ⟨m.env, (resL x p.1 b).2.2 ++ m.sto⟩ _ (fun l q => ?_)]
    · show K _ _ ⟨m.env, _ ++ (_ ++ m.sto)⟩ = K _ _ ⟨m.env, (_ ++ _) ++ m.sto⟩
      rw [List.append_assoc]
      rfl
    · have hc := hl l (List.mem_append_left _ q)
      refine ⟨hc.env, ?_, ?_⟩
      · show holdsB l (_ ++ m.sto) = false
        rw [holdsB_append, h3, hc.sto]
        rfl
      · show look l (_ ++ m.sto) = none
        rw [look_append, look_none (fun k => ?_)]
        · exact hc.no
        · have := h2 l k
          have := h5 l q
          omega
  | .unit, _, b, m, K, _ => rfl
  | .tag _ _ _, _, b, m, K, _ => rfl
theorem okIn0_sub (h : Sub s m) {p : PV} (q : okIn0 s p = true) : viewIn0 m p = viewIn0 s p := by
  cases p <;> first
    | rfl
    | (simp only [okIn0] at q
       simp only [viewIn0, h.isSome q])
theorem okIn_sub (h : Sub s m) {p : PV} (q : okIn s p = true) : viewIn m p = viewIn s p := by
  cases p with
  | own id =>
    simp only [okIn] at q
    simp only [viewIn, h.isSome q]
  | deep id =>
    simp only [okIn] at q
    simp only [viewIn, h.isSome q]
  | ref id off =>
    simp only [okIn] at q
    simp only [viewIn]
    split at q
    · rename_i hl
      rw [hl, h.sto _ _ hl]
      simp only
      rw [List.map_congr_left fun p hp => okIn0_sub h (List.all_eq_true.1 q p hp)]
    · rename_i b hb hl
      rw [hl, h.sto _ _ hl]
      cases b with
      | box t cs => exact absurd rfl (hb t cs)
      | row e t l => rfl
      | map k v l => rfl
      | deep e e' t l o => rfl
    · cases q
  | _ => rfl
theorem okCell_sub (h : Sub s m) {p : PV} (q : okCell s p = true) : viewCell m p = viewCell s p := by
  cases p with
  | own id =>
    simp only [okCell] at q
    simp only [viewCell, h.isSome q]
  | deep id =>
    simp only [okCell] at q
    simp only [viewCell, h.isSome q]
  | ref id off =>
    simp only [okCell] at q
    simp only [viewCell]
    split at q
    · rename_i hl
      rw [hl, h.sto _ _ hl]
      simp only
      rw [List.map_congr_left fun p hp => okIn_sub h (List.all_eq_true.1 q p hp)]
    · rename_i b hb hl
      rw [hl, h.sto _ _ hl]
      cases b with
      | box t cs => exact absurd rfl (hb t cs)
      | row e t l => rfl
      | map k v l => rfl
      | deep e e' t l o => rfl
    · cases q
  | func f cs =>
    simp only [okCell] at q
    simp only [viewCell]
    rw [List.map_congr_left fun p hp => okIn_sub h (List.all_eq_true.1 q p hp)]
  | _ => rfl
theorem okArg_sub (h : Sub s m) {p : PV} (q : okArg s p = true) : viewArg m p = viewArg s p := by
  cases p with
  | agg cs =>
    simp only [okArg] at q
    simp only [viewArg]
    rw [List.map_congr_left fun p hp => okCell_sub h (List.all_eq_true.1 q p hp)]
  | own id => exact okCell_sub (p := .own id) h q
  | deep id => exact okCell_sub (p := .deep id) h q
  | ref id off => exact okCell_sub (p := .ref id off) h q
  | func f cs => exact okCell_sub (p := .func f cs) h q
  | _ => rfl
theorem callD_spec {f : FuncId} {g : FSig} {fn : Func} {d : Nat} {args : List PV} {K : PV → List (Nat × Blk) → Option R} (q : callD P callT f g fn d s args K = some r) :
    ∃ p nb, K p nb = some r ∧ (g.res.lends = true → holdsOwnL args = false) ∧ ∀ m, Sub s m → (∀ l, l ∈ nb.map (·.1) → Clean l m) → ∀ {R' : Type} (K' : PV → St → Option R'), callIn P callT f g fn d m args K' = K' p ⟨m.env, nb ++ m.sto⟩ := by
  unfold callD at q
  split at q
  · cases q
  · rename_i hl
    split at q
    · rename_i hok
      rw [Option.bind_eq_some_iff] at q
      obtain ⟨x, hx, q⟩ := q
      simp only at q
      split at q
      · rename_i vs hvs
        refine ⟨_, _, q, fun k => by simpa [k] using hl, fun m h hc R' K' => ?_⟩
        have hv : args.map (viewArg m) = args.map (viewArg s) := List.map_congr_left fun p hp => okArg_sub h (List.all_eq_true.1 hok p hp)
        unfold callIn
        rw [if_neg hl, hv, hx, Option.bind_some, resCells_clean _ _ _ _ _ hc]
        simp only [hvs]
      · cases q
    · cases q
end
end Go.Proofs.Ytbaekdcacmoniaa.Pv
