/- A call of a function, carried out by the model as the pure machine says. -/
import Derived.Test.YtbaekdcacmoniaaPv14
import Derived.Test.YtbaekdcacmoniaaPvB
import Derived.Laws.Externs
import Derived.KernelRfl
namespace Go.Proofs.Ytbaekdcacmoniaa.Pv
open Go Go.RowKit

/-- What a call comes to. -/
def Post (P : Program) (fn : Func) (t : Ty) (w : World) (F : Nat → Prop) (x : t.den) : Ending → World → Prop
  | .returned v, w1 => ∃ own1 gs us, v = wrapV us ∧ Beneath (fun _ => False) w w1 ∧ (∀ q, F q → own1 q) ∧ (∀ q, q ∈ gs → own1 q ∧ w.heap.size ≤ q ∧ q < w1.heap.size) ∧ gs.Nodup ∧ ResR own1 w1 gs t x (us.flatMap (·.cells.toList)) ∧ Shapes P fn.resultTypes.toList us
  | _, _ => False
def CallOk0 (W0 : World) (P : Program) (f : FuncId) (t : Ty) (args : List PV) (x : t.den) : Prop :=
  ∃ fn, P.funcs[f]? = some fn ∧ fn.body.isSome = true ∧ ∀ (w : World) (F : Nat → Prop) (vs : List Value), Beneath (fun _ => False) W0 w → (∀ g, F g → g < w.heap.size) → VRs (fun _ => undef) F w args vs → Calls P f vs.toArray w (Post P fn t w F x)
/-- What a call comes to that was lent the box g, of type b, and the rows gs in it. -/
def PostL (P : Program) (fn : Func) (t : Ty) (b : TypeId) (n : Nat) (w : World) (F : Nat → Prop) (g : Nat) (gs : List Nat) (y : t.den) : Ending → World → Prop
  | .returned v, w1 => ∃ (own1 : Nat → Prop) (gs1 : List Nat) (us : List Value) (us' : Array Value), v = wrapV us ∧ Beneath (fun q => q = g ∨ q ∈ gs) w w1 ∧ (∀ q, F q → own1 q) ∧ own1 g ∧ g ∉ gs1 ∧ (∀ q, q ∈ gs1 → own1 q ∧ (w.heap.size ≤ q ∨ q ∈ gs) ∧ q < w1.heap.size) ∧ gs1.Nodup ∧ w1.heap[g]? = some (.cells us' b (0, 0)) ∧ us'.size = n ∧
      ResR own1 w1 gs1 t y (us.flatMap (·.cells.toList) ++ us'.toList) ∧ Shapes P fn.resultTypes.toList us
  | _, _ => False
structure Lend (own F : Nat → Prop) (w : World) (b : TypeId) (t : Ty) (x : t.den) (g : Nat) (gs : List Nat) (us : Array Value) : Prop where
  lo : ∀ q, own q → q < w.heap.size
  sub : ∀ q, F q → own q ∧ q ≠ g ∧ q ∉ gs
  box : own g
  rows : ∀ q, q ∈ gs → own q
  new : g ∉ gs
  nodup : gs.Nodup
  heap : w.heap[g]? = some (.cells us b (0, 0))
  res : ResR own w gs t x us.toList
/-- What a call is told of the row that it may look at. -/
def GuestR (par : List Par) (own F : Nat → Prop) (w : World) (args : List PV) (vs : List Value) : Prop :=
  ∀ j e τ, guestAt par = some (j, e, τ) → ∃ l, nth args j = .row e τ l ∧ RowR own w (vs.getD j undef) e τ l ∧ ∀ q, q ∈ blks (vs.getD j undef) → F q
def CallOk1 (W0 : World) (P : Program) (f : FuncId) (par : List Par) (r : Ty) (i : Nat) (b : TypeId) (t : Ty) (args : List PV) (x : t.den) (y : r.den) : Prop :=
  ∃ fn, P.funcs[f]? = some fn ∧ fn.body.isSome = true ∧ ∀ (w : World) (own F : Nat → Prop) (vs : List Value) (g : Nat) (gs : List Nat) (us : Array Value), Beneath (fun _ => False) W0 w → (∀ q, (q = g ∨ q ∈ gs) → W0.heap.size ≤ q) → Lend own F w (boxT b) t x g gs us → VRs (fun _ => undef) own w (blankG par (put args i .undef)) vs → GuestR par own F w args vs → vs.getD i undef = lentV b (.pointer (some ⟨g, 0, none⟩)) →
    Calls P f vs.toArray w (PostL P fn r (boxT b) t.sz w F g gs y)
def CallOk (W0 : World) (P : Program) (f : FuncId) (g : FSig) (args : List PV) (y : g.res.den) : Prop :=
  (lentAt g.par = none → CallOk0 W0 P f g.res args y) ∧ ∀ i b t x, lentAt g.par = some (i, b, t) → nth args i = .cref (cells t x) 0 → CallOk1 W0 P f g.par g.res i b t args x y
/-- The functions that are told of are ordinary ones. -/
def okS (P : Program) (S : List (FuncId × FSig)) : Bool := P.follows .mixedOrders && S.all fun p => match P.funcs[p.1]? with | some fn => !(fn.name == "runtime.NumGoroutine") | none => true
theorem sigOf_mem {f : FuncId} {g : FSig} : ∀ {S : List (FuncId × FSig)}, sigOf f S = some g → (f, g) ∈ S
  | [], h => by cases h
  | (f', g') :: r, h => by
    rw [sigOf] at h
    split at h
    · rename_i e
      have : f' = f := by simpa using e
      subst this
      cases h
      exact List.mem_cons_self
    · exact List.mem_cons_of_mem _ (sigOf_mem h)
theorem canonP_sound {ρ : Nat → Value} {own : Nat → Prop} {w : World} (c : Par) {p : PV} {v : Value} (h : VR ρ own w p v) : VR ρ own w (canonP c p) v := by
  cases c with
  | any => exact h
  | lent b t => exact h
  | guest e t => exact h
  | val t =>
    rw [canonP]
    split
    · rename_i x hx
      cases p with
      | agg cs =>
        rw [VR] at h ⊢
        obtain ⟨vs, e, h⟩ := h
        obtain ⟨u, r, e2, h1, h2⟩ := uncells_sound hx h
        rw [VRs] at h2
        subst h2
        rw [List.append_nil] at e2
        exact ⟨vs, e, by rw [e2]; exact VRs_cells h1⟩
      | _ =>
        obtain ⟨u, r, e2, h1, h2⟩ := uncells_sound hx (vs := [v]) (by rw [cellsOfPV, VRs] <;> first | exact ⟨v, [], rfl, h, by rw [VRs]⟩ | nofun)
        rw [VRs] at h2
        subst h2
        rw [List.append_nil] at e2
        have h3 : VRs ρ own w (cells t x) [v] := by rw [e2]; exact VRs_cells h1
        revert h3
        simp only
        cases cells t x with
        | nil => intro h3; rw [VRs] at h3; cases h3
        | cons q qs =>
          intro h3
          rw [VRs] at h3
          obtain ⟨v', r', e3, h4, _⟩ := h3
          cases e3
          exact h4
    · rw [VR]
      trivial
  | nilv t =>
    have val : VR ρ own w (match uncells t (cellsOfPV p) with | some (x, []) => (match p with | .agg _ => .agg (cells t x) | _ => nth (cells t x) 0) | _ => .undef) v := by
      split
      · rename_i x hx
        cases p with
        | agg cs =>
          rw [VR] at h ⊢
          obtain ⟨vs, e, h⟩ := h
          obtain ⟨u, r, e2, h1, h2⟩ := uncells_sound hx h
          rw [VRs] at h2
          subst h2
          rw [List.append_nil] at e2
          exact ⟨vs, e, by rw [e2]; exact VRs_cells h1⟩
        | _ =>
          obtain ⟨u, r, e2, h1, h2⟩ := uncells_sound hx (vs := [v]) (by rw [cellsOfPV, VRs] <;> first | exact ⟨v, [], rfl, h, by rw [VRs]⟩ | nofun)
          rw [VRs] at h2
          subst h2
          rw [List.append_nil] at e2
          have h3 : VRs ρ own w (cells t x) [v] := by rw [e2]; exact VRs_cells h1
          revert h3
          simp only
          cases cells t x with
          | nil => intro h3; rw [VRs] at h3; cases h3
          | cons q qs =>
            intro h3
            rw [VRs] at h3
            obtain ⟨v', r', e3, h4, _⟩ := h3
            cases e3
            exact h4
      · rw [VR]
        trivial
    cases p <;> first | exact h | exact val
  | ptr t =>
    cases p with
    | cref cs off =>
      rw [canonP]
      split
      · rename_i x hx
        rw [VR] at h ⊢
        obtain ⟨g, vs, T, e, q1, q2, q3, h⟩ := h
        obtain ⟨u, r, e2, h1, h2⟩ := uncells_sound hx h
        rw [VRs] at h2
        subst h2
        rw [List.append_nil] at e2
        exact ⟨g, vs, T, e, q1, q2, q3, by rw [e2]; exact VRs_cells h1⟩
      · rw [VR]
        trivial
    | _ => rw [canonP, VR] <;> first | trivial | nofun
theorem canonL_sound {ρ : Nat → Value} {own : Nat → Prop} {w : World} : ∀ (cs : List Par) {ps : List PV} {vs : List Value}, VRs ρ own w ps vs → VRs ρ own w (canonL cs ps) vs
  | [], _, _, h => h
  | _ :: _, [], _, h => h
  | c :: cs, p :: ps, _, h => by
    rw [VRs] at h
    obtain ⟨v, r, e, h1, h2⟩ := h
    rw [canonL, VRs]
    exact ⟨v, r, e, canonP_sound c h1, canonL_sound cs h2⟩
section
variable {R : Type} {r : R} {ρ : Nat → Value} {own : Nat → Prop} {W0 : World} {c : Cx W0} {w w1 : World} {s : St} {a : Act} {P : Program} {S : List (FuncId × FSig)} {callT : (f : FuncId) → (g : FSig) → List PV → Option g.res.den}
theorem RelX.start (h : RelX ρ own c s a w) : Beneath (fun _ => False) W0 w := c.st.trans h.below (fun g hg q => absurd (c.low g q) (by omega))
theorem RelX.high (h : RelX ρ own c s a w) {q : Nat} (k : c.w0.heap.size ≤ q ∨ c.L q) : W0.heap.size ≤ q := by
  rcases k with k | k
  · exact Nat.le_trans c.st.size k
  · exact c.low q k
/-- The world has grown, and some of the new blocks are the call's own. -/
theorem RelX.grown (h : RelX ρ own c s a w) (gs : List Nat) (hb : Beneath (fun _ => False) w w1) (hg : ∀ q, q ∈ gs → w.heap.size ≤ q ∧ q < w1.heap.size) : RelX ρ (fun q => own q ∨ q ∈ gs) c s a w1 := by
  have hag : Agree own w w1 := ⟨hb.size, fun g hg _ => hb.block g hg (fun q => q)⟩
  have ho : ∀ g, g < w.heap.size → (own g ∨ g ∈ gs) → own g := fun g hlt q => q.resolve_right (fun k => by have := (hg g k).1; omega)
  refine ⟨h.len, fun t => VR.move hag ho (fun _ _ => rfl) (h.env t), fun id b hid => BR.move hag ho rfl ?_ (fun g hgb => hb.block g (h.lo g (h.owned id b g hid hgb).1) (fun q => q)) (h.sto id b hid), h.apart, fun id b g hid hgb => ⟨.inl (h.owned id b g hid hgb).1, (h.owned id b g hid hgb).2⟩, fun g q => ?_, fun g q => .inl (h.base g q), h.fr, h.below.trans hb (fun _ _ q => q.elim), h.defers, h.pin⟩
  · cases b <;> simp
  · rcases q with q | q
    · exact Nat.lt_of_lt_of_le (h.lo g q) hb.size
    · exact (hg g q).2
theorem eqDL_eq {α : Type} {f : α → α → Bool} (hf : ∀ a b, f a b = true → a = b) : ∀ {l m : List α}, eqD.eqDL f l m = true → l = m
  | [], [], _ => rfl
  | [], _ :: _, h => by cases h
  | _ :: _, [], h => by cases h
  | a :: l, b :: m, h => by
    rw [eqD.eqDL, Bool.and_eq_true] at h
    rw [hf a b h.1, eqDL_eq hf h.2]
theorem eqD_eq : ∀ {t : Ty} {a b : t.den}, eqD t a b = true → a = b
  | .int _, a, b, h => by simpa [eqD] using h
  | .bool, a, b, h => by simpa [eqD] using h
  | .str, a, b, h => by
    have h2 : (a == b) = true := by rw [beq_toListBytes]; exact h
    have h3 : (a.data == b.data) = true := h2
    exact ByteArray.ext (by simpa using h3)
  | .list _ _ t, a, b, h => eqDL_eq (fun _ _ => eqD_eq) (by simpa [eqD] using h)
  | .prod x y, a, b, h => by
    rw [eqD, Bool.and_eq_true] at h
    exact Prod.ext (eqD_eq h.1) (eqD_eq h.2)
  | .unit, _, _, _ => rfl
  | .tag _ _ t, a, b, h => eqD_eq (t := t) h
theorem nilOr_some {t : Ty} {b : Bool} {x y z : Option t.den} {q : t.den} (h : nilOr t b x y z = some q) : (b = true ∧ x = some q ∧ y = some q) ∨ (b = false ∧ z = some q) := by
  unfold nilOr at h
  split at h
  · rename_i hb
    rw [Option.bind_eq_some_iff] at h
    obtain ⟨p, h1, h⟩ := h
    rw [Option.bind_eq_some_iff] at h
    obtain ⟨p', h2, h⟩ := h
    split at h
    · rename_i he
      cases h
      exact .inl ⟨hb, h1, by rw [h2, ← eqD_eq he]⟩
    · cases h
  · rename_i hb
    exact .inr ⟨by simpa using hb, h⟩
theorem callN_ok (hcall : ∀ f g args x, callT f g args = some x → CallOk W0 P f g args x) {f : FuncId} {g : FSig} {args : List PV} {x : g.res.den} (hl : lentAt g.par = none) (h : callN callT f g args = some x) : CallOk0 W0 P f g.res args x := by
  unfold callN at h
  split at h
  · rename_i e t l hp
    rcases nilOr_some h with ⟨hl', h1, h2⟩ | ⟨_, h1⟩
    · obtain ⟨fn, hf, hb, k1⟩ := (hcall _ _ _ _ h1).1 hl
      obtain ⟨fn', hf', _, k2⟩ := (hcall _ _ _ _ h2).1 hl
      rw [hf] at hf'
      cases hf'
      refine ⟨fn, hf, hb, fun w F vs hst hF hv => ?_⟩
      have hl0 : l = [] := by simpa using hl'
      subst hl0
      have hv0 := hv
      rw [VRs] at hv0
      obtain ⟨v, r, rfl, hv1, hv2⟩ := hv0
      rw [VRs] at hv2
      subst hv2
      rw [VR, RdC.eq_def] at hv1
      obtain ⟨A, k, e1, _, _, h3, _⟩ := hv1
      cases e1
      cases A with
      | none =>
        have := h3 rfl
        subst this
        exact k1 w F _ hst hF (by rw [VRs]; exact ⟨_, _, rfl, by rw [VR]; rfl, by rw [VRs]⟩)
      | some b => exact k2 w F _ hst hF (by rw [VRs]; exact ⟨_, _, rfl, by rw [VR]; exact ⟨b, k, rfl⟩, by rw [VRs]⟩)
    · exact (hcall _ _ _ _ h1).1 hl
  · exact (hcall _ _ _ _ h).1 hl
theorem callIn_sound (hcall : ∀ f g args x, callT f g args = some x → CallOk W0 P f g args x) {f : FuncId} {g : FSig} {fn : Func} (hla : lentAt g.par = none) (hfn : P.funcs[f]? = some fn) {d : Nat} {args : List PV} {vs : List Value} {K : PV → St → Option R} (h : callIn P callT f g fn d s args K = some r) (hr : RelX ρ own c s a w) (hv : VRs ρ own w args vs) {Q : Ending → World → Prop}
    (hQ : ∀ ρ' own' p v s' w', K p s' = some r → RelX ρ' own' c s' a w' → VR ρ' own' w' p v → Q (.returned v) w') : fn.body.isSome = true ∧ Calls P f vs.toArray w Q := by
  unfold callIn at h
  split at h
  · cases h
  · rename_i hl
    rw [Option.bind_eq_some_iff] at h
    obtain ⟨x, hx, h⟩ := h
    obtain ⟨fn', hfn', hbody, hok⟩ := callN_ok hcall hla hx
    rw [hfn] at hfn'
    cases hfn'
    refine ⟨hbody, ?_⟩
    have fin : ∀ F : Nat → Prop, (∀ q, F q → own q) → ((∀ q, ¬ F q) ∨ holdsOwnL args = false) → (g.res.lends = true → ∀ q, own q → F q) → Calls P f vs.toArray w Q := by
      intro F hF hfree hlend
      refine (hok w F vs hr.start (fun q k => hr.lo q (hF q k)) (canonL_sound g.par (viewList (fun p v hp => viewArg_sound hr ⟨hF, hfree.imp id (fun k => free_mem k hp)⟩) hv))).mono ?_
      intro e w' hp
      cases e with
      | returned v =>
        obtain ⟨own1, gs, us, rfl, hb, hF1, hgs, hnd, hres, hsh⟩ := hp
        have hr1 := hr.grown gs hb (fun q k => (hgs q k).2)
        have hres' : ResR (fun q => own q ∨ q ∈ gs) w' gs g.res x (us.flatMap (·.cells.toList)) := hres.sub (fun hl q k => by
          rcases k with k | k
          · exact hF1 q (hlend hl q k)
          · exact (hgs q k).1)
        obtain ⟨cs, b', s', ρ', h, laid⟩ := resCells_sound h hr1 hres' (fun q k => ⟨.inr k, .inl (Nat.le_trans hr.below.size (hgs q k).2.1)⟩) hnd (fun j y q hj hgj k => by
          have := hr.lo q (hr.owned j y q hj hgj).1
          have := (hgs q k).2.1
          omega)
        split at h
        · rename_i ps hps
          exact hQ _ _ _ _ _ _ h laid.rel (wrap_sound (deal_sound hps hsh laid.vals))
        · cases h
      | panicked chain => exact hp.elim
      | outgrown => exact hp.elim
    cases hlend : g.res.lends with
    | false => exact fin (fun _ => False) (fun _ q => q.elim) (.inl fun _ q => q) (fun q => by rw [hlend] at q; cases q)
    | true => exact fin own (fun _ q => q) (.inr (by rw [hlend] at hl; simpa using hl)) (fun _ _ q => q)
theorem upd_self (ρ : Nat → Value) (id : Nat) : upd ρ id (ρ id) = ρ := by
  funext j
  unfold upd
  split
  · rename_i e
    rw [e]
  · rfl
theorem RelX.usedL (h : RelX ρ own c s a w) : ∀ ids : List Nat, RelX ρ own c (s.usedL ids) a w ∧ ∀ j x, look j (s.usedL ids).sto = some x → j ∉ ids ∧ ∃ x0, look j s.sto = some x0 ∧ ∀ t cs, x0 = .box t cs → ∃ cs', x = .box t cs' := by
  intro ids
  induction ids generalizing s with
  | nil => exact ⟨h, fun j x hj => ⟨by simp, x, hj, fun t cs e => ⟨cs, e⟩⟩⟩
  | cons i r ih =>
    have h1 := h.used i (ρ i) (Agree.refl _ _) h.below (fun _ _ q => q) (fun j x g _ hj hg => ⟨rfl, (h.owned j x g hj hg).1⟩) h.lo h.base
    rw [upd_self] at h1
    obtain ⟨h2, h3⟩ := ih h1
    refine ⟨h2, fun j x hj => ?_⟩
    obtain ⟨q1, x0, q2, q3⟩ := h3 j x hj
    have q4 := look_drop i _ j x0 q2
    obtain ⟨b0, q5, q6⟩ := look_forget i s.sto j x0 q4.2
    refine ⟨fun q => ?_, b0, q5, fun t cs e => ?_⟩
    · rcases List.mem_cons.1 q with k | k
      · exact q4.1 k
      · exact q1 k
    · subst e
      exact q3 _ _ q6
theorem VRs_undefs : ∀ (vs : List Value), VRs ρ own w (List.replicate vs.length .undef) vs
  | [] => by rw [List.length_nil, List.replicate_zero, VRs]
  | v :: vs => by
    rw [List.length_cons, List.replicate_succ, VRs]
    exact ⟨v, vs, rfl, by rw [VR]; trivial, VRs_undefs vs⟩
theorem uncells_cells : ∀ (t : Ty) (x : t.den) (r : List PV), uncells t (cells t x ++ r) = some (x, r)
  | .int k, x, r => by simp [cells, uncells, unInt]
  | .bool, x, r => by simp [cells, uncells, unBool]
  | .str, x, r => by simp [cells, uncells, unStr]
  | .list _ e t, x, r => by simp [cells, uncells, unRow, sameRow]
  | .prod t u, x, r => by
    rw [cells, List.append_assoc, uncells, uncells_cells t x.1]
    simp only
    rw [uncells_cells u x.2]
  | .unit, x, r => by simp [cells, uncells]
  | .tag q ag t, x, r => by
    have := uncells_cells t x []
    rw [List.append_nil] at this
    rw [cells, uncells]
    cases ag <;> simp [unTag, this]
theorem holdsOwn_put {p : PV} : ∀ {l : List PV} {i : Nat}, holdsOwnL (put l i .undef) = false → p ∈ put l i .undef → holdsOwn p = false
  | l, i, h, hm => free_mem h hm
theorem VRs.freeL {ρ' : Nat → Value} : ∀ {ps : List PV} {vs : List Value}, holdsOwnL ps = false → VRs ρ own w ps vs → VRs ρ' own w ps vs
  | [], _, _, h => by rw [VRs] at h ⊢; exact h
  | p :: ps, _, hf, h => by
    rw [holdsOwnL, Bool.or_eq_false_iff] at hf
    rw [VRs] at h ⊢
    obtain ⟨v, r, e, h1, h2⟩ := h
    exact ⟨v, r, e, h1.free (fun _ q => q) hf.1, VRs.freeL hf.2 h2⟩
theorem VRs.blankAt : ∀ {ps : List PV} {vs : List Value} (i : Nat), VRs ρ own w ps vs → VRs ρ own w (put ps i .undef) vs
  | [], _, _, h => h
  | p :: ps, _, 0, h => by
    rw [VRs] at h
    obtain ⟨v, r, e, h1, h2⟩ := h
    rw [put, VRs]
    exact ⟨v, r, e, by rw [VR]; trivial, h2⟩
  | p :: ps, _, i + 1, h => by
    rw [VRs] at h
    obtain ⟨v, r, e, h1, h2⟩ := h
    rw [put, VRs]
    exact ⟨v, r, e, h1, VRs.blankAt i h2⟩
theorem put_put : ∀ (l : List PV) (i : Nat) (a b : PV), put (put l i a) i b = put l i b
  | [], _, _, _ => rfl
  | _ :: _, 0, _, _ => rfl
  | x :: l, i + 1, a, b => by rw [put, put, put, put_put l i a b]
theorem len_canon : ∀ (cs : List Par) (ps : List PV), (canonL cs ps).length = ps.length
  | [], _ => rfl
  | _ :: _, [] => rfl
  | c :: cs, p :: ps => by rw [canonL, List.length_cons, List.length_cons, len_canon cs ps]
/-- The world after a call that was lent the box of label id. -/
theorem RelX.lent (h : RelX ρ own c s a w) {id g : Nat} {gs gs1 : List Nat} {b : TypeId} {us' : Array Value} (hid : ρ id = .pointer (some ⟨g, 0, none⟩)) (hbl : ∀ j x q, look j s.sto = some x → q ∈ blks (ρ j) → (j = id ∧ q = g) ∨ (q ≠ g ∧ q ∉ gs)) (hbx : ∀ x, look id s.sto = some x → ∃ cs, x = .box b cs)
    (hbn : Beneath (fun q => q = g ∨ q ∈ gs) w w1) (hG : ∀ q, (q = g ∨ q ∈ gs) → own q ∧ (c.w0.heap.size ≤ q ∨ c.L q)) (hh : w1.heap[g]? = some (.cells us' b (0, 0))) (h1 : ∀ q, q ∈ gs1 → (w.heap.size ≤ q ∨ q ∈ gs) ∧ q < w1.heap.size) :
    RelX ρ (fun q => (own q ∧ q ≠ g ∧ q ∉ gs) ∨ q = g ∨ q ∈ gs1) c (s.setBox id (List.replicate us'.size .undef)) a w1 := by
  have hag : Agree own w w1 := ⟨hbn.size, fun q hq hnq => hbn.block q hq (fun k => hnq (hG q k).1)⟩
  have ho : ∀ q, q < w.heap.size → ((own q ∧ q ≠ g ∧ q ∉ gs) ∨ q = g ∨ q ∈ gs1) → own q := by
    intro q hq k
    rcases k with k | k | k
    · exact k.1
    · exact (hG q (.inl k)).1
    · rcases (h1 q k).1 with e | e
      · omega
      · exact (hG q (.inr e)).1
  have hg : g < w1.heap.size := Nat.lt_of_lt_of_le (h.lo g (hG g (.inl rfl)).1) hbn.size
  have hlo : ∀ q, ((own q ∧ q ≠ g ∧ q ∉ gs) ∨ q = g ∨ q ∈ gs1) → q < w1.heap.size := by
    intro q k
    rcases k with k | k | k
    · exact Nat.lt_of_lt_of_le (h.lo q k.1) hbn.size
    · rw [k]; exact hg
    · exact (h1 q k).2
  have hbase : ∀ q, c.F q → (own q ∧ q ≠ g ∧ q ∉ gs) ∨ q = g ∨ q ∈ gs1 := by
    intro q hq
    have hn : ¬ (q = g ∨ q ∈ gs) := by
      intro k
      rcases (hG q k).2 with e | e
      · have := h.fr q hq
        omega
      · exact c.dis q hq e
    exact .inl ⟨h.base q hq, fun e => hn (.inl e), fun e => hn (.inr e)⟩
  have hben : Beneath c.L c.w0 w1 := h.below.trans hbn (fun q hq k => by
    rcases (hG q k).2 with e | e
    · omega
    · exact e)
  have lk : ∀ j x, look j (s.setBox id (List.replicate us'.size .undef)).sto = some x → ∃ x0, look j s.sto = some x0 ∧ ((j = id ∧ x = .box b (List.replicate us'.size .undef)) ∨ (j ≠ id ∧ x = x0)) := by
    intro j x hj
    unfold St.setBox at hj
    split at hj
    · rename_i t0 cs0 hl
      obtain ⟨cs, e⟩ := hbx _ hl
      cases e
      have hj' : look j (setb id (.box b (List.replicate us'.size .undef)) s.sto) = some x := hj
      rw [look_set] at hj'
      by_cases e : j = id
      · subst e
        rw [if_pos rfl, hl] at hj'
        cases hj'
        exact ⟨_, hl, .inl ⟨rfl, rfl⟩⟩
      · rw [if_neg e] at hj'
        exact ⟨x, hj', .inr ⟨e, rfl⟩⟩
    · rename_i hno
      by_cases e : j = id
      · subst e
        obtain ⟨cs, rfl⟩ := hbx x hj
        exact absurd hj (hno _ _)
      · exact ⟨x, hj, .inr ⟨e, rfl⟩⟩
  have henv : (s.setBox id (List.replicate us'.size .undef)).env = s.env := by
    unfold St.setBox
    split <;> rfl
  refine ⟨by rw [henv]; exact h.len, fun t => ?_, fun j x hj => ?_, fun i j x y q hi hj k1 k2 => ?_, fun j x q hj k => ?_, hlo, hbase, h.fr, hben, h.defers, by rw [henv]; exact h.pin⟩
  · rw [henv]
    exact VR.move hag ho (fun _ _ => rfl) (h.env t)
  · obtain ⟨x0, k0, k1⟩ := lk j x hj
    rcases k1 with ⟨rfl, rfl⟩ | ⟨hne, rfl⟩
    · exact ⟨g, us', hid, hh, by simpa using VRs_undefs (ρ := ρ) (w := w1) us'.toList⟩
    · refine BR.move hag ho rfl ?_ (fun q hq => ?_) (h.sto j x k0)
      · cases x <;> simp
      · rcases hbl j x q k0 hq with ⟨e, _⟩ | ⟨e1, e2⟩
        · exact absurd e hne
        · exact hbn.block q (h.lo q (h.owned j x q k0 hq).1) (fun k => k.elim e1 e2)
  · obtain ⟨x0, k3, _⟩ := lk i x hi
    obtain ⟨y0, k4, _⟩ := lk j y hj
    exact h.apart i j x0 y0 q k3 k4 k1 k2
  · obtain ⟨x0, k3, kx⟩ := lk j x hj
    have := h.owned j x0 q k3 k
    have hbr : x.isRow = x0.isRow := by
      rcases kx with ⟨rfl, rfl⟩ | ⟨_, rfl⟩
      · obtain ⟨cs, rfl⟩ := hbx x0 k3
        rfl
      · rfl
    rw [hbr]
    refine ⟨?_, this.2⟩
    rcases hbl j x0 q k3 k with ⟨_, e⟩ | ⟨e1, e2⟩
    · exact .inr (.inl e)
    · exact .inl ⟨this.1, e1, e2⟩
theorem RelX.setBox (h : RelX ρ own c s a w) {id g : Nat} {b : TypeId} {us : Array Value} (hid : ρ id = .pointer (some ⟨g, 0, none⟩)) (hh : w.heap[g]? = some (.cells us b (0, 0))) {cs : List PV} (hv : VRs ρ own w cs us.toList) : RelX ρ own c (s.setBox id cs) a w := by
  unfold St.setBox
  split
  · rename_i t0 cs0 hl
    obtain ⟨g', vs, e, k1, k2⟩ := h.sto id _ hl
    rw [hid] at e
    cases e
    rw [hh] at k1
    cases k1
    exact h.turn hl (b' := .box b cs) (g := g) (in_blk (by rw [hid]; rfl)) (Agree.refl _ _) h.below (fun _ _ _ => rfl) ⟨g, us, hid, hh, hv⟩
  · exact h
theorem put_swap : ∀ (l : List PV) {i j : Nat} (a b : PV), i ≠ j → put (put l i a) j b = put (put l j b) i a
  | [], _, _, _, _, _ => rfl
  | _ :: _, 0, 0, _, _, h => absurd rfl h
  | _ :: _, 0, _ + 1, _, _, _ => rfl
  | _ :: _, _ + 1, 0, _, _, _ => rfl
  | x :: l, i + 1, j + 1, a, b, h => by
    rw [Pv.put, Pv.put, Pv.put, Pv.put, put_swap l a b (fun e => h (by rw [e]))]
theorem lent_ne_guest : ∀ {par : List Par} {i j : Nat} {b : TypeId} {t : Ty} {e : TypeId} {τ : Ty}, lentAt par = some (i, b, t) → guestAt par = some (j, e, τ) → i ≠ j
  | [], _, _, _, _, _, _, h, _ => by cases h
  | p :: r, i, j, b, t, e, τ, h, k => by
    have tl : ∀ (o : Option (Nat × TypeId × Ty)), (match o with | some (i, b, t) => some (i + 1, b, t) | none => none) = some (i, b, t) → ∃ i', o = some (i', b, t) ∧ i = i' + 1 := by
      intro o ho
      cases o with
      | none => cases ho
      | some q => obtain ⟨x, y, z⟩ := q; cases ho; exact ⟨_, rfl, rfl⟩
    have tg : ∀ (o : Option (Nat × TypeId × Ty)), (match o with | some (i, b, t) => some (i + 1, b, t) | none => none) = some (j, e, τ) → ∃ i', o = some (i', e, τ) ∧ j = i' + 1 := by
      intro o ho
      cases o with
      | none => cases ho
      | some q => obtain ⟨x, y, z⟩ := q; cases ho; exact ⟨_, rfl, rfl⟩
    cases p with
    | lent b0 t0 =>
      rw [lentAt] at h
      split at h
      · cases h
      · cases h
        obtain ⟨j', _, rfl⟩ := tg _ k
        omega
    | guest e0 t0 =>
      cases k
      obtain ⟨i', _, rfl⟩ := tl _ h
      omega
    | _ =>
      obtain ⟨i', hi, rfl⟩ := tl _ h
      obtain ⟨j', hj, rfl⟩ := tg _ k
      have := lent_ne_guest hi hj
      omega
theorem memN_of {j : Nat} : ∀ {l : List Nat}, j ∈ l → memN j l = true
  | x :: l, h => by
    rw [memN, Bool.or_eq_true]
    rcases List.mem_cons.1 h with rfl | h
    · exact .inl (Nat.beq_refl _)
    · exact .inr (memN_of h)
theorem len_blankG (par : List Par) (args : List PV) : (blankG par args).length = args.length := by
  unfold blankG
  split
  · rfl
  · exact len_put _ _ _
theorem VRs.blankG {ps : List PV} {vs : List Value} (par : List Par) (h : VRs ρ own w ps vs) : VRs ρ own w (Pv.blankG par ps) vs := by
  unfold Pv.blankG
  split
  · exact h
  · exact h.blankAt _
theorem callLent_sound (hcall : ∀ f g args x, callT f g args = some x → CallOk W0 P f g args x) {f : FuncId} {g : FSig} {fn : Func} {i : Nat} {b : TypeId} {t : Ty} (hla : lentAt g.par = some (i, b, t)) (hfn : P.funcs[f]? = some fn) {d : Nat} {args : List PV} {vs : List Value} {K : PV → St → Option R} (h : callLent P callT f g fn d s i b t args K = some r) (hr : RelX ρ own c s a w) (hv : VRs ρ own w args vs) {Q : Ending → World → Prop}
    (hQ : ∀ ρ' own' p v s' w', K p s' = some r → RelX ρ' own' c s' a w' → VR ρ' own' w' p v → Q (.returned v) w') : fn.body.isSome = true ∧ Calls P f vs.toArray w Q := by
  unfold callLent at h
  split at h
  case h_2 => cases h
  rename_i id hid
  split at h
  case h_2 => cases h
  rename_i b' cs hl
  split at h
  case isFalse => cases h
  rename_i hc
  rw [Bool.and_eq_true, Bool.and_eq_true, Bool.and_eq_true, Bool.and_eq_true] at hc
  obtain ⟨⟨⟨⟨hc1, hc2⟩, hc3⟩, hc4⟩, hc5⟩ := hc
  have eb : b' = boxT b := by simpa using hc1
  subst eb
  have ecs : cs.length = t.sz := by simpa using hc2
  split at h
  case h_2 => cases h
  rename_i x hx
  rw [Option.bind_eq_some_iff] at h
  obtain ⟨args2, hargs2, h⟩ := h
  rw [Option.bind_eq_some_iff] at h
  obtain ⟨y, hy, h⟩ := h
  obtain ⟨g0, us, e, hh, hvs⟩ := hr.sto id _ hl
  have hva := hv.nth i
  obtain ⟨g', e', hva⟩ := unLent_sound hid hva
  rw [e] at e'
  cases e'
  obtain ⟨u, r', ps, e1, e2, h5, h6, h7⟩ := (unres_sound hr hx hvs).ex
  rw [VRs] at h6
  subst h6
  rw [List.append_nil] at e1 e2
  subst e2
  obtain ⟨hnd, hgs⟩ := nodupO_sound hc3
  obtain ⟨h8, h9⟩ := blks_nodup hr hnd hgs h7
  have hblk : g0 ∈ blks (ρ id) := in_blk (by rw [e]; rfl)
  have how := hr.mine (.inr rfl) hl hblk
  have hin : ∀ q, q ∈ blksOf ρ (ownIdsL cs) → ∃ j, j ∈ ownIdsL cs ∧ q ∈ blks (ρ j) := by
    intro q hq
    simp only [blksOf, List.mem_flatMap] at hq
    obtain ⟨j, hj, hq⟩ := hq
    exact ⟨j, hj, hq⟩
  have hnew : g0 ∉ blksOf ρ (ownIdsL cs) := by
    intro q
    obtain ⟨j, hj, hq⟩ := hin g0 q
    obtain ⟨bk, hlk, hbk⟩ := (h7 j hj).some
    have := hr.apart j id _ _ g0 hlk hl hq hblk
    subst this
    rw [hl] at hlk
    cases hlk
    cases hbk
  obtain ⟨fn', hfn', hbody, hok⟩ := (hcall _ _ _ _ hy).2 i b t x hla (by
    have hi : i < args.length := by
      rcases Nat.lt_or_ge i args.length with q | q
      · exact q
      · rw [nth_out _ _ q, unLent_undef] at hid
        cases hid
    unfold putG at hargs2
    split at hargs2
    · cases hargs2
      rw [nth_put, if_pos ⟨rfl, by rw [len_canon, len_blankG, len_put]; exact hi⟩]
    · rename_i j e τ hga
      obtain ⟨l, _, rfl⟩ := Option.map_eq_some_iff.1 hargs2
      have hij := lent_ne_guest hla hga
      rw [nth_put, if_neg (fun q => hij q.1), nth_put, if_pos ⟨rfl, by rw [len_canon, len_blankG, len_put]; exact hi⟩])
  rw [hfn] at hfn'
  cases hfn'
  refine ⟨hbody, ?_⟩
  have hargs : VRs (fun _ => undef) own w (canonL g.par (blankG g.par (put args i .undef))) vs := canonL_sound g.par (VRs.freeL (by simpa using hc4) ((hv.blankAt i).blankG g.par))
  have hG : ∀ q, (q = g0 ∨ q ∈ blksOf ρ (ownIdsL cs)) → own q ∧ (c.w0.heap.size ≤ q ∨ c.L q) := by
    intro q k
    rcases k with k | k
    · rw [k]; exact how
    · exact h9 q k
  refine (hok w own (fun q => own q ∧ q ≠ g0 ∧ q ∉ blksOf ρ (ownIdsL cs)) vs g0 (blksOf ρ (ownIdsL cs)) us hr.start (fun q k => hr.high (hG q k).2) ⟨hr.lo, fun q k => k, how.1, fun q k => (h9 q k).1, hnew, h8, hh, by rw [e1]; exact h5⟩ ?_ ?_ hva).mono ?_
  · unfold putG at hargs2
    split at hargs2
    · rename_i hga
      cases hargs2
      generalize canonL g.par (blankG g.par (put args i .undef)) = C at hargs
      unfold Pv.blankG
      rw [hga]
      show VRs _ _ _ (put (put C i _) i .undef) vs
      rw [put_put]
      exact hargs.blankAt i
    · rename_i j e τ hga
      obtain ⟨l, _, rfl⟩ := Option.map_eq_some_iff.1 hargs2
      have hij := lent_ne_guest hla hga
      generalize canonL g.par (blankG g.par (put args i .undef)) = C at hargs
      unfold Pv.blankG
      rw [hga]
      show VRs _ _ _ (put (put (put (put C i _) j _) i .undef) j .undef) vs
      rw [put_swap _ _ _ hij, put_put, put_swap _ _ _ hij, put_put]
      exact (hargs.blankAt j).blankAt i
  · intro j e τ hga
    unfold putG at hargs2
    rw [hga] at hargs2
    obtain ⟨l, hgv, rfl⟩ := Option.map_eq_some_iff.1 hargs2
    unfold guestOk at hc5
    rw [hga] at hc5
    simp only at hc5
    have hjl : j < args.length := by
      rcases Nat.lt_or_ge j args.length with q | q
      · exact q
      · rw [nth_out _ _ q] at hgv
        cases hgv
    have hvj := hv.nth j
    refine ⟨l, by rw [nth_put, if_pos ⟨rfl, by rw [len_put, len_canon, len_blankG, len_put]; exact hjl⟩], ?_⟩
    unfold guestV at hgv
    split at hgv
    · rename_i hn
      cases hgv
      rw [hn, VR] at hvj
      rw [hvj]
      exact ⟨.inl ⟨⟨none, rfl⟩, rfl⟩, fun q hq => by cases hq⟩
    · rename_i id2 hn
      split at hgv
      · rename_i e' t' l' hl2
        obtain ⟨rfl, rfl, hq⟩ := sameRow_eq hgv
        have := eq_of_heq hq
        subst this
        rw [hn, VR] at hvj
        rw [hn] at hc5
        rw [hvj.1]
        refine ⟨hr.sto id2 _ hl2, fun q hq => ⟨(hr.owned id2 _ q hl2 hq).1, fun e9 => ?_, fun hm => ?_⟩⟩
        · subst e9
          have := hr.apart id2 id _ _ q hl2 hl hq hblk
          subst this
          rw [hl] at hl2
          cases hl2
        · obtain ⟨j3, hj3, hq3⟩ := hin q hm
          obtain ⟨bk, hlk, _⟩ := (h7 j3 hj3).some
          have := hr.apart id2 j3 _ _ q hl2 hlk hq hq3
          subst this
          have hmem : memN id2 (ownIdsL cs) = true := memN_of hj3
          have hc6 : (!memN id2 (ownIdsL cs)) = true := hc5
          rw [hmem] at hc6
          cases hc6
      · cases hgv
    · cases hgv
  intro ev w' hp
  cases ev with
  | panicked chain => exact hp.elim
  | outgrown => exact hp.elim
  | returned v =>
    obtain ⟨own1, gs1, us1, us', rfl, hben, hF1, hg1, hng, hgs1, hnd1, hh1, hsz, hres, hsh⟩ := hp
    obtain ⟨hu, hul⟩ := hr.usedL (ownIdsL cs)
    have hbl : ∀ j x q, look j (s.usedL (ownIdsL cs)).sto = some x → q ∈ blks (ρ j) → (j = id ∧ q = g0) ∨ (q ≠ g0 ∧ q ∉ blksOf ρ (ownIdsL cs)) := by
      intro j x q hj hq
      obtain ⟨k1, x0, k2, _⟩ := hul j x hj
      by_cases ej : j = id
      · subst ej
        rw [e] at hq
        exact .inl ⟨rfl, List.mem_singleton.1 hq⟩
      · refine .inr ⟨fun eq => ej ?_, fun hm => k1 ?_⟩
        · subst eq
          exact hr.apart j id x0 _ q k2 hl hq hblk
        · obtain ⟨j2, hj2, hq2⟩ := hin q hm
          obtain ⟨bk, hlk, _⟩ := (h7 j2 hj2).some
          have := hr.apart j j2 x0 _ q k2 hlk hq hq2
          subst this
          exact hj2
    have hbx : ∀ x, look id (s.usedL (ownIdsL cs)).sto = some x → ∃ cs, x = .box (boxT b) cs := by
      intro x hj
      obtain ⟨_, x0, k2, k3⟩ := hul id x hj
      rw [hl] at k2
      cases k2
      exact k3 _ _ rfl
    have hlent := hu.lent (gs1 := gs1) e hbl hbx hben hG hh1 (fun q k => (hgs1 q k).2)
    rw [ecs, ← hsz] at h
    obtain ⟨cs2, m, s', ρ', h, laid⟩ := resCells_sound h hlent (hres.sub (own' := fun q => (own q ∧ q ≠ g0 ∧ q ∉ blksOf ρ (ownIdsL cs)) ∨ q = g0 ∨ q ∈ gs1) (fun _ q k => by
      rcases k with k | k | k
      · exact hF1 q k
      · rw [k]; exact hg1
      · exact (hgs1 q k).1)) (fun q k => ⟨.inr (.inr k), by
        rcases (hgs1 q k).2.1 with z | z
        · exact .inl (Nat.le_trans hr.below.size z)
        · exact (hG q (.inr z)).2⟩) hnd1 (fun j x q hj hq k => by
        have hown : look j (s.usedL (ownIdsL cs)).sto = some x ∨ j = id := by
          unfold St.setBox at hj
          split at hj
          · have hj' : look j (setb id _ (s.usedL (ownIdsL cs)).sto) = some x := hj
            rw [look_set] at hj'
            by_cases ej : j = id
            · exact .inr ej
            · rw [if_neg ej] at hj'
              exact .inl hj'
          · exact .inl hj
        rcases hown with z | z
        · rcases hbl j x q z hq with ⟨_, e9⟩ | ⟨e9, e10⟩
          · exact hng (e9 ▸ k)
          · obtain ⟨_, x0, k2, _⟩ := hul j x z
            have := hr.lo q (hr.owned j x0 q k2 hq).1
            rcases (hgs1 q k).2.1 with z2 | z2
            · omega
            · exact e10 z2
        · subst z
          rw [e] at hq
          rw [List.mem_singleton.1 hq] at k
          exact hng k)
    split at h
    case isFalse => cases h
    rename_i hlab
    have hkeep : ρ' id = ρ id := laid.keep id (by
      rw [Bool.or_eq_true] at hlab
      rcases hlab with q | q
      · exact .inl (by simpa using q)
      · exact .inr (by simpa using q))
    have hlen := laid.vals.len
    have hlen2 : us'.toList.length = t.sz := by simpa using hsz
    rw [List.length_append, hlen2] at hlen
    have hn : cs2.length - us'.size = (us1.flatMap (·.cells.toList)).length := by omega
    rw [hn] at h
    have v1 := laid.vals.take (us1.flatMap (·.cells.toList)).length
    have v2 := laid.vals.drop (us1.flatMap (·.cells.toList)).length
    rw [List.take_left] at v1
    rw [List.drop_left] at v2
    split at h
    · rename_i ps hps
      have hset := laid.rel.setBox (id := id) (by rw [hkeep]; exact e) hh1 v2
      exact hQ _ _ _ _ _ _ h hset (wrap_sound (deal_sound hps hsh v1))
    · cases h
/-- The model's entry for math/bits.Sub64. -/
def sub64E : Array Value → Sem Value := fun args => do
  let (x, y, b) ← Extern.MathBitsCarry.three "Sub64" args
  pure (Extern.MathBitsCarry.pair ((x + Extern.MathBitsCarry.m64 - y - b) % Extern.MathBitsCarry.m64) (if x < y + b then 1 else 0))
theorem three_run {α : Type} (nm : String) (x y k : Int) (K : Nat × Nat × Nat → Sem α) (w : World) : (Extern.MathBitsCarry.three nm #[.int .u64 x, .int .u64 y, .int .u64 k] >>= K).run P w = (if k.toNat > 1 then ((do unsupported (.noEntry ("extern/math/bits." ++ nm ++ ": a carry that is neither 0 nor 1")); pure (x.toNat, y.toNat, k.toNat) : Sem (Nat × Nat × Nat)) >>= K).run P w else (K (x.toNat, y.toNat, k.toNat)).run P w) := by
  show Sem.run P ((do
    let c := (← asInt (.int .u64 k)).toNat
    if c > 1 then unsupported (.noEntry ("extern/math/bits." ++ nm ++ ": a carry that is neither 0 nor 1"))
    pure ((← asInt (.int .u64 x)).toNat, (← asInt (.int .u64 y)).toNat, c) : Sem (Nat × Nat × Nat)) >>= K) w = _
  have ha : ∀ (q : IntKind) (n : Int) (w : World), (asInt (.int q n)).run P w = .ok n w := fun _ _ _ => rfl
  have hb : ∀ (q : IntKind) (n : Int), asInt (.int q n) = .pure n := fun _ _ => rfl
  have hc : ∀ {β γ : Type} (n : β) (f : β → Sem γ), (Sem.pure n >>= f) = f n := fun _ _ => rfl
  rw [hb, hb, hb]
  simp only [hc]
  by_cases h : k.toNat > 1
  · rw [if_pos h, if_pos h]
  · rw [if_neg h, if_neg h]
    rfl
theorem run_nat {f : FuncId} {fn : Func} (hn : natOf P f = some fn) {args : List PV} {K : PV → Option R} (h : evNat fn.name args K = some r) {vs : List Value} (hv : VRs ρ own w args vs) :
    ∃ p v, K p = some r ∧ VR ρ own w p v ∧ (callFunc f vs.toArray).run P w = .ok (.value v) w := by
  unfold natOf at hn
  split at hn
  case h_2 => cases hn
  rename_i fn' hf
  split at hn
  case h_2 => cases hn
  rename_i hb
  split at hn
  case isFalse => cases hn
  rename_i hor
  have hor' : fn'.origin = "" := by simpa using hor
  cases hn
  have hbn : fn.body.isNone = true := by rw [hb]; rfl
  unfold evNat at h
  split at h
  case h_2 => cases h
  rename_i x y k
  rw [VRs] at hv
  obtain ⟨v0, r0, rfl, e0, hv⟩ := hv
  rw [VRs] at hv
  obtain ⟨v1, r1, rfl, e1, hv⟩ := hv
  rw [VRs] at hv
  obtain ⟨v2, r2, rfl, e2, hv⟩ := hv
  rw [VRs] at hv
  subst hv
  rw [VR] at e0 e1 e2
  subst e0 e1 e2
  have pair : ∀ (m n : Nat), VR ρ own w (.tuple [.int .u64 (m : Int), .int .u64 (n : Int)]) (Extern.MathBitsCarry.pair m n) := by
    intro m n
    rw [VR]
    refine ⟨_, rfl, ?_⟩
    rw [VRs]
    refine ⟨_, _, rfl, by rw [VR]; rfl, ?_⟩
    rw [VRs]
    refine ⟨_, _, rfl, by rw [VR]; rfl, ?_⟩
    rw [VRs]
  split at h
  · rename_i hname
    split at h
    case isFalse => cases h
    rename_i hk
    have hnm : fn.name = "math/bits.Add64" := by simpa using hname
    refine ⟨_, _, h, pair _ _, ?_⟩
    rw [run_callFunc_extern hf (by rw [hnm]; kernel_rfl) hbn (by unfold Extern.findNext; rw [hnm, hor']; kernel_rfl) (e := add64Entry) (by unfold Extern.find; rw [hnm, hor']; kernel_rfl)]
    have : k.toNat = 0 ∨ k.toNat = 1 := by omega
    have hkk : ∀ m : Nat, k.toNat = m → m ≤ 1 → (add64Entry #[.int .u64 x, .int .u64 y, .int .u64 k]).run P w = .ok (Extern.MathBitsCarry.pair ((x.toNat + y.toNat + m) % Extern.MathBitsCarry.m64) ((x.toNat + y.toNat + m) / Extern.MathBitsCarry.m64)) w := by
      intro m hm hle
      have hk' : m = 0 ∨ m = 1 := by omega
      unfold add64Entry
      rw [three_run]
      rcases hk' with rfl | rfl <;> simp [hm]
    show ((add64Entry #[.int .u64 x, .int .u64 y, .int .u64 k]).run P w).andThen _ = _
    rw [hkk k.toNat rfl hk]
    rfl
  · split at h
    case isFalse => cases h
    rename_i hname
    split at h
    case isFalse => cases h
    rename_i hk
    have hnm : fn.name = "math/bits.Sub64" := by simpa using hname
    refine ⟨_, _, h, pair _ _, ?_⟩
    rw [run_callFunc_extern hf (by rw [hnm]; kernel_rfl) hbn (by unfold Extern.findNext; rw [hnm, hor']; kernel_rfl) (e := sub64E) (by unfold Extern.find; rw [hnm, hor']; kernel_rfl)]
    have hno : ¬ (k.toNat > 1) := by omega
    have hkk : (sub64E #[.int .u64 x, .int .u64 y, .int .u64 k]).run P w = .ok (Extern.MathBitsCarry.pair ((x.toNat + Extern.MathBitsCarry.m64 - y.toNat - k.toNat) % Extern.MathBitsCarry.m64) (if x.toNat < y.toNat + k.toNat then 1 else 0)) w := by
      unfold sub64E
      rw [three_run]
      have hk' : k.toNat = 0 ∨ k.toNat = 1 := by omega
      rcases hk' with h0 | h0 <;> simp [h0]
    show ((sub64E #[.int .u64 x, .int .u64 y, .int .u64 k]).run P w).andThen _ = _
    rw [hkk]
    rfl
theorem methT_run {q : TypeId} {nm : String} {f : FuncId} (h : methT P q nm = some f) (v : Value) (w : World) (n : Nat) : (method (n + 1) q v nm).run P w = .ok (f, v) w := by
  unfold methT at h
  split at h
  case h_2 => cases h
  rename_i i hi
  split at h
  case h_2 => cases h
  rename_i m hm
  split at h
  case isFalse => cases h
  rename_i hp
  split at h
  case h_2 => cases h
  rename_i f' e hf hu
  cases h
  have hp' : m.path.toList = [] := by simpa using hp
  simp [method, typeInfo, hi, hm, hp', follow, hf, receiverAt, run_underlying hu, Place.get]
theorem invoke_run {q : TypeId} {nm : String} {f : FuncId} {fn : Func} (h : methT P q nm = some f) (hfn : P.funcs[f]? = some fn) (hname : fn.name ≠ "runtime.NumGoroutine") (hb : fn.body ≠ none) (u : Value) (vs : Array Value) (w : World) :
    (invoke (.fn (.method nm) #[]) (#[.iface q u] ++ vs)).run P w = .ok (.enter f (u :: vs.toList).toArray) w := by
  have h0 : (#[Value.iface q u] ++ vs)[0]? = some (.iface q u) := by
    rw [Array.getElem?_append_left (Nat.zero_lt_one)]
    rfl
  have h1 : (#[Value.iface q u] ++ vs).extract 1 (#[Value.iface q u] ++ vs).size = vs := by
    apply Array.ext'
    simp
  have h2 : #[u] ++ vs = (u :: vs.toList).toArray := by
    apply Array.ext'
    simp
  have hd : 0 < Made.depth := by decide
  obtain ⟨n, hn⟩ : ∃ n, P.types.size + Made.depth = n + 1 := ⟨P.types.size + Made.depth - 1, by omega⟩
  simp only [invoke, h0, h1]
  simp [callMethod, hn, methT_run h, callFunc, hfn, hname, hb, h2]
/-- What is asked of a library function's code. -/
def LibOk (W0 : World) (P : Program) (f : FuncId) (k : Nat) (ts : List Nat) : Prop :=
  (∃ fn, P.funcs[f]? = some fn ∧ fn.name ≠ "runtime.NumGoroutine" ∧ fn.body.isSome = true) ∧
  match k, ts with
  | 0, [T, tb, tst, e] => elemT P tb = some (e, .int .u8, 1) ∧ P.underlying tst = some .string ∧ WStrOk P f T tb tst
  | 1, [T, tb, _, e] => elemT P tb = some (e, .int .u8, 1) ∧ WByteOk P f T tb e
  | 2, [T, _, _, e] => StrOk P f T e
  | 3, _ => ∀ (n : Int) (w : World), in64 n = true → Beneath (fun _ => False) W0 w → Calls P f #[.int .i64 n] w fun e w' => e = .returned (.string (itoaB n)) ∧ Beneath (fun _ => False) w w'
  | 4, _ => ∀ (n : Int) (w : World), in64 n = true → Beneath (fun _ => False) W0 w → Calls P f #[.int .i64 n, .int .i64 10] w fun e w' => e = .returned (.string (itoaB n)) ∧ Beneath (fun _ => False) w w'
  | 5, [e, _, _, _] => (∀ (A : Option Addr) (sep : ByteArray) (w : World), Calls P f #[.slice A 0 0, .string sep] w fun e w' => e = .returned (.string ByteArray.empty) ∧ Beneath (fun _ => False) w w') ∧
      ∀ (g k : Nat) (us : Array Value) (l : List ByteArray) (sep : ByteArray) (w : World), w.heap[g]? = some (.cells us e (0, 0)) → l.length ≤ k → (∀ (i : Nat) (x : ByteArray), l[i]? = some x → us[i]? = some (.string x)) → l.length ≤ 140737488355328 → (joinB sep l).size ≤ 140737488355328 →
        Calls P f #[.slice (some ⟨g, 0, none⟩) l.length k, .string sep] w fun e w' => e = .returned (.string (joinB sep l)) ∧ Beneath (fun _ => False) w w'
  | 6, [e, _, _, _] => ∀ (x sep : ByteArray) (b : UInt8) (w : World), sep.data.toList = [b] → x.size < 4294967281 → Beneath (fun _ => False) W0 w → Calls P f #[.string x, .string sep] w fun r w' => r = .returned (.slice (some ⟨w.heap.size, 0, none⟩) (splitB b x).length (splitB b x).length) ∧ w' = w.alloc (.cells ((splitB b x).map Value.string).toArray e)
  | _, _ => True
structure OkS (P : Program) (S : List (FuncId × FSig)) (W0 : World) : Prop where
  mixed : P.follows .mixedOrders = true
  named : (S.all fun p => match P.funcs[p.1]? with | some fn => !(fn.name == "runtime.NumGoroutine") | none => true) = true
  lib : ∀ f k ts, Nat.blt f 1000000 = true → libOf f S = some (k, ts) → LibOk W0 P f k ts
def noLib (S : List (FuncId × FSig)) : Bool := S.all fun p => !(Nat.ble 8000000 p.1 && Nat.blt p.1 9000000)
theorem OkS.of (h : okS P S = true) (hn : noLib S = true) : OkS P S W0 := by
  refine ⟨((Bool.and_eq_true _ _).mp h).1, ((Bool.and_eq_true _ _).mp h).2, fun f k ts hb hl => ?_⟩
  exfalso
  unfold libOf at hl
  split at hl
  · rename_i g hg
    have hm := List.all_eq_true.1 hn _ (sigOf_mem hg)
    have hb' : f < 1000000 := by simpa using hb
    have h1 : Nat.ble 8000000 (Nat.add 8000000 f) = true := by
      simp only [Nat.ble_eq, Nat.add_eq]
      omega
    have h2 : Nat.blt (Nat.add 8000000 f) 9000000 = true := by
      simp only [Nat.blt_eq, Nat.add_eq]
      omega
    simp only [h1, h2] at hm
    cases hm
  · cases hl
/-- The library functions that S tells of. -/
def libsOf (S : List (FuncId × FSig)) : List (FuncId × Nat × List Nat) := S.filterMap fun p =>
  if (Nat.ble 8000000 p.1 && Nat.blt p.1 9000000) = true then (match p.2.ann with | [(k, pt)] => some (Nat.sub p.1 8000000, k, pt.keep) | _ => none) else none
theorem OkS.ofL (h : okS P S = true) (hn : ∀ q, q ∈ libsOf S → LibOk W0 P q.1 q.2.1 q.2.2) : OkS P S W0 := by
  refine ⟨((Bool.and_eq_true _ _).mp h).1, ((Bool.and_eq_true _ _).mp h).2, fun f k ts hb hl => ?_⟩
  refine hn (f, k, ts) ?_
  unfold libOf at hl
  split at hl
  · rename_i g hg
    have hb' : f < 1000000 := by simpa using hb
    have h1 : Nat.ble 8000000 (Nat.add 8000000 f) = true := by
      simp only [Nat.ble_eq, Nat.add_eq]
      omega
    have h2 : Nat.blt (Nat.add 8000000 f) 9000000 = true := by
      simp only [Nat.blt_eq, Nat.add_eq]
      omega
    unfold libsOf
    rw [List.mem_filterMap]
    refine ⟨_, sigOf_mem hg, ?_⟩
    simp only [h1, h2, Bool.and_true, if_true]
    split at hl
    · rename_i k' pt ha
      cases hl
      rw [ha]
      simp
    · cases hl
  · cases hl
theorem VR_err : VR ρ own w (.func 1000000 []) .nilIface := by
  rw [VR]
  exact ⟨#[], rfl, by rw [VRs]⟩
theorem bldRow_eq {T e id : Nat} {l : List Int} {sA : St} (h : bldRow s T e id = some (l, sA)) : ∃ c0 c1, look id s.sto = some (.box T [c0, c1]) ∧ bptr id c0 = true ∧
    ((c1 = .nils ∧ l = [] ∧ sA = { s with sto := setb id (.box T [.ref id 0, c1]) s.sto }) ∨ ∃ j, c1 = .own j ∧ j ≠ id ∧ gst j = false ∧ look j s.sto = some (.row e (.int .u8) l) ∧ sA = ({ s with sto := setb id (.box T [.ref id 0, c1]) s.sto } : St).used j) := by
  unfold bldRow at h
  split at h
  case h_2 => cases h
  rename_i T' c0 c1 hl
  split at h
  case isFalse => cases h
  rename_i hc
  rw [Bool.and_eq_true] at hc
  have : T' = T := Nat.eq_of_beq_eq_true hc.1
  subst this
  refine ⟨c0, c1, hl, hc.2, ?_⟩
  split at h
  · cases h
    exact .inl ⟨rfl, rfl, rfl⟩
  · rename_i j
    split at h
    · cases h
    rename_i hj
    split at h
    · rename_i e' l' hlj
      split at h
      case isFalse => cases h
      rename_i he
      have : e' = e := Nat.eq_of_beq_eq_true he
      subst this
      cases h
      exact .inr ⟨j, rfl, fun q => hj (by rw [q, show Nat.beq id id = true from Nat.beq_refl _]; rfl), by
        cases hq : gst j with
        | false => rfl
        | true => exact absurd (by rw [hq, Bool.or_true]) hj, hlj, rfl⟩
    · cases h
  · cases h
theorem bldStr_eq {T e id : Nat} {l : List Int} {sA : St} (h : bldStr s T e id = some (true, l, sA)) : ∃ c0 c1, look id s.sto = some (.box T [c0, c1]) ∧
    ((c1 = .nils ∧ l = [] ∧ sA = s) ∨ ∃ j, c1 = .own j ∧ j ≠ id ∧ gst j = false ∧ look j s.sto = some (.row e (.int .u8) l) ∧ sA = s.used j ∧ l ≠ [] ∧ l.all inByte = true) := by
  unfold bldStr at h
  split at h
  case h_2 => cases h
  rename_i T' c0 c1 hl
  split at h
  case isFalse => cases h
  rename_i hc
  have : T' = T := Nat.eq_of_beq_eq_true hc
  subst this
  refine ⟨c0, c1, hl, ?_⟩
  split at h
  · cases h
    exact .inl ⟨rfl, rfl, rfl⟩
  · rename_i j
    split at h
    · cases h
    rename_i hj
    split at h
    · rename_i e' l' hlj
      split at h
      case isFalse => cases h
      rename_i he
      have : e' = e := Nat.eq_of_beq_eq_true he
      subst this
      have h2 := Option.some.inj h
      have hq : (!l'.isEmpty && l'.all inByte) = true := congrArg Prod.fst h2
      have h3 : l' = l := congrArg (fun q => q.2.1) h2
      have h4 : s.used j = sA := congrArg (fun q => q.2.2) h2
      subst h3
      rw [Bool.and_eq_true] at hq
      exact .inr ⟨j, rfl, fun q => hj (by rw [q, show Nat.beq id id = true from Nat.beq_refl _]; rfl), by
        cases hq : gst j with
        | false => rfl
        | true => exact absurd (by rw [hq, Bool.or_true]) hj, hlj, h4.symm, fun q => by rw [q] at hq; simp at hq, hq.2⟩
    · cases h
  · cases h
theorem evLib_sound {f k : Nat} {ts : List Nat} {od : Option Tmp} {args : List PV} {K : PV → St → Option R} (hL : LibOk W0 P f k ts) (hr : RelX ρ own c s a w) (h : evLib s od k ts args K = some r) {vs : List Value} (hv : VRs ρ own w args vs) {Q : Value → World → Prop}
    (hn : ∀ ρ' own' p v s' w', K p s' = some r → RelX ρ' own' c s' a w' → VR ρ' own' w' p v → Q v w') : Calls P f vs.toArray w fun e w' => ∃ v, e = .returned v ∧ Q v w' := by
  unfold evLib at h
  split at h
  case h_2 => cases h
  rename_i d T tb tst e id as
  split at h
  · cases h
  rename_i hd
  have hd' : id ≠ d := fun q => hd (by rw [q]; exact Nat.beq_refl _)
  rw [VRs] at hv
  obtain ⟨v0, vs', rfl, hv0, hv⟩ := hv
  rw [VR] at hv0
  obtain ⟨g0, e0, rfl⟩ := hv0
  split at h
  · rename_i x
    rw [VRs] at hv
    obtain ⟨v1, vs1, rfl, hv1, hv⟩ := hv
    rw [VRs] at hv
    subst hv
    rw [VR] at hv1
    subst hv1
    obtain ⟨_, he, hts, hf⟩ := hL
    split at h
    case h_2 => cases h
    rename_i l sA hb
    split at h
    case isFalse => cases h
    rename_i hlim
    obtain ⟨c0, c1, hl, h0, hA⟩ := bldRow_eq hb
    obtain ⟨g, ρ', own', w', e1, h2, hc⟩ := wstr_rel hr hl h0 he hts hf hd' x l sA hA hlim
    rw [e0] at e1
    cases e1
    refine hc.mono ?_
    rintro e w'' ⟨rfl, rfl⟩
    refine ⟨_, rfl, hn _ _ _ _ _ _ h h2 ?_⟩
    rw [VR]
    refine ⟨#[.int .i64 x.size, .nilIface], rfl, ?_⟩
    rw [VRs]
    refine ⟨_, _, rfl, by rw [VR], ?_⟩
    rw [VRs]
    refine ⟨_, _, rfl, VR_err, ?_⟩
    rw [VRs]
  · rename_i x
    rw [VRs] at hv
    obtain ⟨v1, vs1, rfl, hv1, hv⟩ := hv
    rw [VRs] at hv
    subst hv
    rw [VR] at hv1
    subst hv1
    obtain ⟨_, he, hf⟩ := hL
    split at h
    case h_2 => cases h
    rename_i l sA hb
    split at h
    case isFalse => cases h
    rename_i hlim
    obtain ⟨c0, c1, hl, h0, hA⟩ := bldRow_eq hb
    obtain ⟨g, ρ', own', w', e1, h2, hc⟩ := wbyte_rel hr hl h0 he hf hd' x l sA hA hlim
    rw [e0] at e1
    cases e1
    refine hc.mono ?_
    rintro e w'' ⟨rfl, rfl⟩
    exact ⟨_, rfl, hn _ _ _ _ _ _ h h2 VR_err⟩
  · rw [VRs] at hv
    subst hv
    obtain ⟨_, hf⟩ := hL
    split at h
    case h_2 => cases h
    rename_i t l sA hb
    split at h
    case isFalse => cases h
    rename_i ht
    subst ht
    obtain ⟨c0, c1, hl, hA⟩ := bldStr_eq hb
    obtain ⟨g, e1, hc⟩ := str_rel hr hl hf l sA hA
    rw [e0] at e1
    cases e1
    refine hc.mono ?_
    rintro e w'' ⟨rfl, ρ', own', h2⟩
    exact ⟨_, rfl, hn _ _ _ _ _ _ h h2 (by rw [VR])⟩
  · cases h
/-- Library functions that make nothing but a string. -/
theorem evPure_sound {f k : Nat} {ts : List Nat} {args : List PV} {K : PV → Option R} (hL : LibOk W0 P f k ts) (hr : RelX ρ own c s a w) (h : evPure s k ts args K = some r) {vs : List Value} (hv : VRs ρ own w args vs) :
    ∃ x, K (.str x) = some r ∧ Calls P f vs.toArray w fun e w' => e = .returned (.string x) ∧ Beneath (fun _ => False) w w' := by
  unfold evPure at h
  split at h
  · rename_i n
    split at h
    case isFalse => cases h
    rename_i hn
    rw [VRs] at hv
    obtain ⟨v0, r0, rfl, e0, hv⟩ := hv
    rw [VRs] at hv
    subst hv
    rw [VR] at e0
    subst e0
    exact ⟨_, h, hL.2 n w hn hr.start⟩
  · rename_i n b
    split at h
    case isFalse => cases h
    rename_i hn
    rw [Bool.and_eq_true] at hn
    have hb : b = 10 := by simpa using hn.1
    subst hb
    rw [VRs] at hv
    obtain ⟨v0, r0, rfl, e0, hv⟩ := hv
    rw [VRs] at hv
    obtain ⟨v1, r1, rfl, e1, hv⟩ := hv
    rw [VRs] at hv
    subst hv
    rw [VR] at e0 e1
    subst e0 e1
    exact ⟨_, h, hL.2 n w hn.2 hr.start⟩
  · rename_i e t1 t2 t3 id sep
    split at h
    case h_2 => cases h
    rename_i e' l hl
    split at h
    case isFalse => cases h
    rename_i hc
    rw [Bool.and_eq_true, Bool.and_eq_true] at hc
    obtain ⟨⟨hc1, hc2⟩, hc3⟩ := hc
    have he : e' = e := Nat.eq_of_beq_eq_true hc1
    subst he
    rw [VRs] at hv
    obtain ⟨v0, r0, rfl, e0, hv⟩ := hv
    rw [VRs] at hv
    obtain ⟨v1, r1, rfl, e1, hv⟩ := hv
    rw [VRs] at hv
    subst hv
    rw [VR] at e0
    rw [VR] at e1
    subst e1
    obtain ⟨rfl, _⟩ := e0
    refine ⟨_, h, ?_⟩
    obtain ⟨_, hL0, hL1⟩ := hL
    rcases hr.sto id _ hl with ⟨⟨A, e1⟩, e2⟩ | ⟨g, q, us, e1, h1, h2, hh, h3, h5⟩
    · subst e2
      rw [e1]
      exact hL0 A sep w
    · rw [e1]
      refine hL1 g (q + 1) us l sep w hh h1 (fun i x hx => ?_) (by simpa using hc2) (by simpa using hc3)
      have := h5 i x hx
      rw [RdC.eq_def] at this
      have this : (us.toList.drop (i * Ty.str.sz)).take Ty.str.sz = [.string x] := this
      have e9 : Ty.str.sz = 1 := rfl
      rw [e9, Nat.mul_one] at this
      have h9 := congrArg (fun l => l[0]?) this
      simpa using h9
  · cases h
theorem splitL_len (b : UInt8) : ∀ l : List UInt8, (splitL b l).length ≤ l.length + 1
  | [] => Nat.le_refl _
  | x :: r => by
    have ih := splitL_len b r
    rw [splitL]
    split
    · simp only [List.length_cons]
      omega
    · split
      · simp
      · rename_i y q hq
        rw [hq] at ih
        simp only [List.length_cons] at ih ⊢
        omega
theorem splitB_len (b : UInt8) (x : ByteArray) : (splitB b x).length ≤ x.size + 1 := by
  have := splitL_len b x.data.toList
  unfold splitB
  rw [List.length_map]
  have e : x.data.toList.length = x.size := Array.length_toList
  rw [e] at this
  exact this
/-- strings.Split at a separator of one byte. -/
theorem evSplit_sound {f : Nat} {ts : List Nat} {od : Option Tmp} {args : List PV} {K : PV → St → Option R} (hL : LibOk W0 P f 6 ts) (hr : RelX ρ own c s a w) (h : evSplit s od ts args K = some r) {vs : List Value} (hv : VRs ρ own w args vs) {Q : Value → World → Prop}
    (hn : ∀ ρ' own' p v s' w', K p s' = some r → RelX ρ' own' c s' a w' → VR ρ' own' w' p v → Q v w') : Calls P f vs.toArray w fun e w' => ∃ v, e = .returned v ∧ Q v w' := by
  unfold evSplit at h
  split at h
  case h_2 => cases h
  rename_i d e t1 t2 t3 x sep
  split at h
  case h_2 => cases h
  rename_i b hsep
  split at h
  case isFalse => cases h
  rename_i hx
  rw [VRs] at hv
  obtain ⟨v0, r0, rfl, e0, hv⟩ := hv
  rw [VRs] at hv
  obtain ⟨v1, r1, rfl, e1, hv⟩ := hv
  rw [VRs] at hv
  subst hv
  rw [VR] at e0 e1
  subst e0 e1
  refine (hL.2 x sep b w hsep hx hr.start).mono ?_
  rintro r' w' ⟨rfl, rfl⟩
  refine ⟨_, rfl, hn _ _ _ _ _ _ h (hr.fresh d (.slice (some ⟨w.heap.size, 0, none⟩) (splitB b x).length (splitB b x).length) (.row e .str (splitB b x)) (fun g hg => alloc_old w _ g hg) (by rw [alloc_size]; omega) (Beneath.alloc _ w _) (fun g q => ?_) ?_) VR_own_new⟩
  · cases hlen : (splitB b x).length with
    | zero => rw [hlen] at q; cases q
    | succ k => rw [hlen] at q; exact List.mem_singleton.1 q
  · have hle : (splitB b x).length ≤ maxLen := by
      have := splitB_len b x
      unfold maxLen
      omega
    cases hlen : (splitB b x).length with
    | zero =>
      have := List.eq_nil_of_length_eq_zero hlen
      rw [this]
      exact .inl ⟨⟨_, by rw [upd_same]⟩, rfl⟩
    | succ k =>
      refine .inr ⟨w.heap.size, k, ((splitB b x).map Value.string).toArray, by rw [upd_same, hlen], by omega, by omega, alloc_new w _, by simp [hlen, Ty.sz], fun i y hy => ?_⟩
      rw [RdC.eq_def]
      have e9 : Ty.str.sz = 1 := rfl
      rw [e9, Nat.mul_one]
      simp only
      have hi : i < (splitB b x).length := (List.getElem?_eq_some_iff.1 hy).1
      have hyi : (splitB b x)[i] = y := (List.getElem?_eq_some_iff.1 hy).2
      rw [List.drop_eq_getElem_cons (by simpa using hi)]
      simp [hyi]
theorem evOp_sound (hS : OkS P S W0) (hcall : ∀ f g args x, callT f g args = some x → CallOk W0 P f g args x) {o : Oper} {K : PV → St → Option R} (hr : RelX ρ own c s a w) (h : evOp P S callT s o K = some r) {next : Act → World → Prop} {Q : Exit → Act → World → Prop}
    (hn : ∀ ρ' own' p v s' w', K p s' = some r → RelX ρ' own' c s' a w' → VR ρ' own' w' p v → next (a.put o.dst v) w') : o.wp P a w next Q := by
  by_cases hc : ∃ cl x, o.op = .call cl ∧ cl.callee = .value x
  · obtain ⟨cl, x, ho, hx⟩ := hc
    unfold evOp at h
    rw [ho] at h
    simp only [hx] at h
    split at h
    · rename_i f caps ef
      split at h
      case isFalse => cases h
      rename_i hblt
      split at h
      · rename_i fn hnat
        split at h
        case h_2 => cases h
        have hv := hr.ev x
        rw [ef, VR] at hv
        obtain ⟨ws, ev, hws⟩ := hv
        rw [funV_fn hblt] at ev
        rw [VRs] at hws
        have hws0 : ws = #[] := Array.toList_eq_nil_iff.1 hws
        subst hws0
        obtain ⟨p, v, h1, h2, h3⟩ := run_nat hnat h (hr.evs cl.args.toList)
        refine wp_value (v := v) (w' := w) ?_ (hn _ _ _ _ _ _ h1 hr h2)
        have harr : (cl.args.toList.map a.eval).toArray = #[] ++ cl.args.map a.eval ++ #[] := by
          apply Array.ext'
          simp
        simp only [execOp, ho, resolve, hx, ev, Deferred.ofValue]
        rw [harr] at h3
        simpa [invoke] using h3
      rename_i hnat
      split at h
      · rename_i k ts hlib
        split at h
        case h_2 => cases h
        have hv := hr.ev x
        rw [ef, VR] at hv
        obtain ⟨ws, ev, hws⟩ := hv
        rw [funV_fn hblt] at ev
        rw [VRs] at hws
        have hws0 : ws = #[] := Array.toList_eq_nil_iff.1 hws
        subst hws0
        have hL := hS.lib f k ts hblt hlib
        obtain ⟨⟨fn, hfn, hname, hb⟩, _⟩ := hL
        have hL := hS.lib f k ts hblt hlib
        have hcalls : Calls P f (cl.args.toList.map a.eval).toArray w fun e w'' => ∃ v, e = .returned v ∧ next (a.put o.dst v) w'' := by
          split at h
          · obtain ⟨x0, h1, h2⟩ := evPure_sound hL hr h (hr.evs cl.args.toList)
            refine h2.mono ?_
            rintro e w'' ⟨rfl, hbn⟩
            exact ⟨_, rfl, hn _ _ _ _ _ _ h1 (hr.grown [] hbn (fun q hq => by cases hq)) (by rw [VR])⟩
          · split at h
            · rename_i hk6
              have : k = 6 := by simpa using hk6
              subst this
              exact evSplit_sound hL hr h (hr.evs cl.args.toList) (Q := fun v w'' => next (a.put o.dst v) w'') hn
            · exact evLib_sound hL hr h (hr.evs cl.args.toList) (Q := fun v w'' => next (a.put o.dst v) w'') hn
        have hrun : (execOp a.eval o).run P w = .ok (.enter f (cl.args.toList.map a.eval).toArray) w := by
          have harr : (cl.args.toList.map a.eval).toArray = #[] ++ cl.args.map a.eval ++ #[] := by
            apply Array.ext'
            simp
          rw [harr]
          simp only [execOp, ho, resolve, hx, ev, Deferred.ofValue]
          have hbn' : fn.body ≠ none := fun q => by rw [q] at hb; cases hb
          simp [invoke, callFunc, hfn, hname, hbn']
        unfold Oper.wp
        rw [hrun]
        refine hcalls.mono ?_
        rintro e w'' ⟨v, rfl, hq⟩
        exact hq
      rename_i hnl
      split at h
      · rename_i g fn hg hfn
        have hv := hr.ev x
        rw [ef, VR] at hv
        obtain ⟨ws, ev, hws⟩ := hv
        rw [funV_fn hblt] at ev
        have hname : ¬ (fn.name == "runtime.NumGoroutine") = true := by
          have := List.all_eq_true.1 hS.named _ (sigOf_mem hg)
          simp only [hfn] at this
          simpa using this
        have hfin : fn.body.isSome = true → Calls P f (cl.args.toList.map a.eval ++ ws.toList).toArray w (fun
            | .returned v, w'' => next (a.put o.dst v) w''
            | .panicked chain, w'' => Q (.panic chain) a w''
            | .outgrown, _ => LetsOut Q) → o.wp P a w next Q := by
          intro hb hcalls
          have hrun : (execOp a.eval o).run P w = .ok (.enter f (cl.args.toList.map a.eval ++ ws.toList).toArray) w := by
            have hbn : fn.body.isNone = false := by
              cases hbb : fn.body with
              | none => rw [hbb] at hb; cases hb
              | some _ => rfl
            have harr : (cl.args.toList.map a.eval ++ ws.toList).toArray = #[] ++ cl.args.map a.eval ++ ws := by
              apply Array.ext'
              simp
            rw [harr]
            simp only [execOp, ho, resolve, hx, ev, Deferred.ofValue]
            have hname' : fn.name ≠ "runtime.NumGoroutine" := by simpa using hname
            have hbn' : fn.body ≠ none := fun q => by rw [q] at hb; cases hb
            simp [invoke, callFunc, hfn, hname', hbn']
          unfold Oper.wp
          rw [hrun]
          exact hcalls
        split at h
        · rename_i i b t hla
          split at h
          · rename_i f' caps' ef'
            split at h
            · rename_i hff
              have : f' = f := by simpa using hff
              subst this
              obtain ⟨own', hr', _⟩ := hr.cools (lentIds s i b t (blankG g.par (cl.args.toList.map s.ev ++ caps)))
              have hv' := hr'.ev x
              rw [ef', VR] at hv'
              obtain ⟨ws', ev', hws'⟩ := hv'
              rw [funV_fn hblt, ev] at ev'
              cases ev'
              obtain ⟨hb, hq⟩ := callLent_sound hcall hla hfn h hr' ((hr'.evs cl.args.toList).append hws') (Q := fun
                | .returned v, w'' => next (a.put o.dst v) w''
                | .panicked chain, w'' => Q (.panic chain) a w''
                | .outgrown, _ => LetsOut Q) hn
              exact hfin hb hq
            · cases h
          · cases h
        rename_i hla
        split at h
        · split at h
          · rename_i f' caps' ef'
            split at h
            · rename_i hff
              have : f' = f := by simpa using hff
              subst this
              obtain ⟨own', hr', _⟩ := hr.cools (ownIdsL (cl.args.toList.map s.ev ++ caps))
              have hv' := hr'.ev x
              rw [ef', VR] at hv'
              obtain ⟨ws', ev', hws'⟩ := hv'
              rw [funV_fn hblt, ev] at ev'
              cases ev'
              obtain ⟨hb, hq⟩ := callIn_sound hcall hla hfn h hr' ((hr'.evs cl.args.toList).append hws') (Q := fun
                | .returned v, w'' => next (a.put o.dst v) w''
                | .panicked chain, w'' => Q (.panic chain) a w''
                | .outgrown, _ => LetsOut Q) hn
              exact hfin hb hq
            · cases h
          · cases h
        · obtain ⟨hb, hq⟩ := callIn_sound hcall hla hfn h hr ((hr.evs cl.args.toList).append hws) (Q := fun
            | .returned v, w'' => next (a.put o.dst v) w''
            | .panicked chain, w'' => Q (.panic chain) a w''
            | .outgrown, _ => LetsOut Q) hn
          exact hfin hb hq
      · cases h
    · cases h
  by_cases hi : ∃ cl x nm, o.op = .call cl ∧ cl.callee = .invoke x nm
  · obtain ⟨cl, x, nm, ho, hx⟩ := hi
    unfold evOp at h
    rw [ho] at h
    simp only [hx] at h
    unfold evInvoke at h
    split at h
    case h_2 => cases h
    rename_i f0 p ef
    split at h
    · cases h
    rename_i hblt
    have hblt' : Nat.blt f0 1000000 = false := Bool.eq_false_iff.2 hblt
    split at h
    · cases h
    rename_i f hm
    split at h
    case h_2 => cases h
    rename_i g fn hg hfn
    have hv := hr.ev x
    rw [ef] at hv
    obtain ⟨u, ev, hu⟩ := iface_of hblt' rfl hv
    have hname : ¬ (fn.name == "runtime.NumGoroutine") = true := by
      have := List.all_eq_true.1 hS.named _ (sigOf_mem hg)
      simp only [hfn] at this
      simpa using this
    have hfin : fn.body.isSome = true → Calls P f (u :: cl.args.toList.map a.eval).toArray w (fun
        | .returned v, w'' => next (a.put o.dst v) w''
        | .panicked chain, w'' => Q (.panic chain) a w''
        | .outgrown, _ => LetsOut Q) → o.wp P a w next Q := by
      intro hb hcalls
      have hrun : (execOp a.eval o).run P w = .ok (.enter f (u :: cl.args.toList.map a.eval).toArray) w := by
        have hname' : fn.name ≠ "runtime.NumGoroutine" := by simpa using hname
        have hbn' : fn.body ≠ none := fun q => by rw [q] at hb; cases hb
        have h3 := invoke_run hm hfn hname' hbn' u (cl.args.map a.eval) w
        rw [Array.toList_map] at h3
        simp only [execOp, ho, resolve, hx, ev]
        rw [Sem.run_bind, Sem.run_pure, Result.andThen_ok]
        exact h3
      unfold Oper.wp
      rw [hrun]
      exact hcalls
    split at h
    · rename_i i b t hla
      split at h
      case h_2 => cases h
      rename_i f1 p1 ef1
      split at h
      case isFalse => cases h
      rename_i hff
      have hff' : f1 = f0 := by simpa using hff
      subst hff'
      obtain ⟨own', hr', _⟩ := hr.cools (lentIds s i b t (blankG g.par (p :: cl.args.toList.map s.ev)))
      have hv' := hr'.ev x
      rw [ef1] at hv'
      obtain ⟨u', ev', hu'⟩ := iface_of hblt' rfl hv'
      rw [ev] at ev'
      cases ev'
      obtain ⟨hb, hq⟩ := callLent_sound hcall hla hfn h hr' (vs := u :: cl.args.toList.map a.eval) (by rw [VRs]; exact ⟨_, _, rfl, hu', hr'.evs cl.args.toList⟩) (Q := fun
        | .returned v, w'' => next (a.put o.dst v) w''
        | .panicked chain, w'' => Q (.panic chain) a w''
        | .outgrown, _ => LetsOut Q) hn
      exact hfin hb hq
    · rename_i hla
      split at h
      · cases h
      obtain ⟨hb, hq⟩ := callIn_sound hcall hla hfn h hr (vs := u :: cl.args.toList.map a.eval) (by rw [VRs]; exact ⟨_, _, rfl, hu, hr.evs cl.args.toList⟩) (Q := fun
        | .returned v, w'' => next (a.put o.dst v) w''
        | .panicked chain, w'' => Q (.panic chain) a w''
        | .outgrown, _ => LetsOut Q) hn
      exact hfin hb hq
  · obtain ⟨ρ', own', p, v, s', w', h1, h2, h3, h4⟩ := evOp_does hr h (fun cl x ho hx => hc ⟨cl, x, ho, hx⟩) (fun cl x nm ho hx => hi ⟨cl, x, nm, ho, hx⟩)
    have := hn ρ' own' p v s' w' h1 h2 h3
    rcases h4 with h4 | ⟨h4, rfl⟩
    · exact wp_value h4 this
    · exact wp_skip_ h4 this
end
end Go.Proofs.Ytbaekdcacmoniaa.Pv
