/- A call of a function, carried out by the model as the pure machine says. -/
import Derived.Test.YtionphbdphbpnaaPv14
import Derived.Laws.Externs
import Derived.KernelRfl
namespace Go.Proofs.Ytionphbdphbpnaa.Pv
open Go Go.RowKit

/-- What a call comes to. -/
def Post (P : Program) (fn : Func) (t : Ty) (w : World) (F : Nat → Prop) (x : t.den) : Ending → World → Prop
  | .returned v, w1 => ∃ own1 gs us, v = wrapV us ∧ Beneath (fun _ => False) w w1 ∧ (∀ q, F q → own1 q) ∧ (∀ q, q ∈ gs → own1 q ∧ w.heap.size ≤ q ∧ q < w1.heap.size) ∧ gs.Nodup ∧ ResR own1 w1 gs t x (us.flatMap (·.cells.toList)) ∧ Shapes P fn.resultTypes.toList us
  | _, _ => False
def CallOk (P : Program) (f : FuncId) (t : Ty) (args : List PV) (x : t.den) : Prop :=
  ∃ fn, P.funcs[f]? = some fn ∧ fn.body.isSome = true ∧ ∀ (w : World) (F : Nat → Prop) (vs : List Value), (∀ g, F g → g < w.heap.size) → VRs (fun _ => undef) F w args vs → Calls P f vs.toArray w (Post P fn t w F x)
/-- The functions that are told of are ordinary ones. -/
def okS (P : Program) (S : List (FuncId × FSig)) : Bool := P.follows .mixedOrders && S.all fun p => match P.funcs[p.1]? with | some fn => !(fn.name == "runtime.NumGoroutine") | none => true
theorem sigOf_mem {f : FuncId} {g : FSig} : ∀ {S : List (FuncId × FSig)}, sigOf f S = some g → (f, g) ∈ S
  | [], h => by cases h
  | (f', g') :: r, h => by
    rw [sigOf] at h
    split at h
    · rename_i e
      have : f' = f := by simpa using e
      subst this
      cases h
      exact List.mem_cons_self
    · exact List.mem_cons_of_mem _ (sigOf_mem h)
theorem canonP_sound {ρ : Nat → Value} {own : Nat → Prop} {w : World} (c : Par) {p : PV} {v : Value} (h : VR ρ own w p v) : VR ρ own w (canonP c p) v := by
  cases c with
  | any => exact h
  | val t =>
    rw [canonP]
    split
    · rename_i x hx
      cases p with
      | agg cs =>
        rw [VR] at h ⊢
        obtain ⟨vs, e, h⟩ := h
        obtain ⟨u, r, e2, h1, h2⟩ := uncells_sound hx h
        rw [VRs] at h2
        subst h2
        rw [List.append_nil] at e2
        exact ⟨vs, e, by rw [e2]; exact VRs_cells h1⟩
      | _ =>
        obtain ⟨u, r, e2, h1, h2⟩ := uncells_sound hx (vs := [v]) (by rw [cellsOfPV, VRs] <;> first | exact ⟨v, [], rfl, h, by rw [VRs]⟩ | nofun)
        rw [VRs] at h2
        subst h2
        rw [List.append_nil] at e2
        have h3 : VRs ρ own w (cells t x) [v] := by rw [e2]; exact VRs_cells h1
        revert h3
        simp only
        cases cells t x with
        | nil => intro h3; rw [VRs] at h3; cases h3
        | cons q qs =>
          intro h3
          rw [VRs] at h3
          obtain ⟨v', r', e3, h4, _⟩ := h3
          cases e3
          exact h4
    · rw [VR]
      trivial
  | nilv t =>
    have val : VR ρ own w (match uncells t (cellsOfPV p) with | some (x, []) => (match p with | .agg _ => .agg (cells t x) | _ => nth (cells t x) 0) | _ => .undef) v := by
      split
      · rename_i x hx
        cases p with
        | agg cs =>
          rw [VR] at h ⊢
          obtain ⟨vs, e, h⟩ := h
          obtain ⟨u, r, e2, h1, h2⟩ := uncells_sound hx h
          rw [VRs] at h2
          subst h2
          rw [List.append_nil] at e2
          exact ⟨vs, e, by rw [e2]; exact VRs_cells h1⟩
        | _ =>
          obtain ⟨u, r, e2, h1, h2⟩ := uncells_sound hx (vs := [v]) (by rw [cellsOfPV, VRs] <;> first | exact ⟨v, [], rfl, h, by rw [VRs]⟩ | nofun)
          rw [VRs] at h2
          subst h2
          rw [List.append_nil] at e2
          have h3 : VRs ρ own w (cells t x) [v] := by rw [e2]; exact VRs_cells h1
          revert h3
          simp only
          cases cells t x with
          | nil => intro h3; rw [VRs] at h3; cases h3
          | cons q qs =>
            intro h3
            rw [VRs] at h3
            obtain ⟨v', r', e3, h4, _⟩ := h3
            cases e3
            exact h4
      · rw [VR]
        trivial
    cases p <;> first | exact h | exact val
  | ptr t =>
    cases p with
    | cref cs off =>
      rw [canonP]
      split
      · rename_i x hx
        rw [VR] at h ⊢
        obtain ⟨g, vs, T, e, q1, q2, q3, h⟩ := h
        obtain ⟨u, r, e2, h1, h2⟩ := uncells_sound hx h
        rw [VRs] at h2
        subst h2
        rw [List.append_nil] at e2
        exact ⟨g, vs, T, e, q1, q2, q3, by rw [e2]; exact VRs_cells h1⟩
      · rw [VR]
        trivial
    | _ => rw [canonP, VR] <;> first | trivial | nofun
theorem canonL_sound {ρ : Nat → Value} {own : Nat → Prop} {w : World} : ∀ (cs : List Par) {ps : List PV} {vs : List Value}, VRs ρ own w ps vs → VRs ρ own w (canonL cs ps) vs
  | [], _, _, h => h
  | _ :: _, [], _, h => h
  | c :: cs, p :: ps, _, h => by
    rw [VRs] at h
    obtain ⟨v, r, e, h1, h2⟩ := h
    rw [canonL, VRs]
    exact ⟨v, r, e, canonP_sound c h1, canonL_sound cs h2⟩
section
variable {R : Type} {r : R} {ρ : Nat → Value} {own : Nat → Prop} {c : Cx} {w w1 : World} {s : St} {a : Act} {P : Program} {S : List (FuncId × FSig)} {callT : (f : FuncId) → (g : FSig) → List PV → Option g.res.den}
/-- The world has grown, and some of the new blocks are the call's own. -/
theorem RelX.grown (h : RelX ρ own c s a w) (gs : List Nat) (hb : Beneath (fun _ => False) w w1) (hg : ∀ q, q ∈ gs → w.heap.size ≤ q ∧ q < w1.heap.size) : RelX ρ (fun q => own q ∨ q ∈ gs) c s a w1 := by
  have hag : Agree own w w1 := ⟨hb.size, fun g hg _ => hb.block g hg (fun q => q)⟩
  have ho : ∀ g, g < w.heap.size → (own g ∨ g ∈ gs) → own g := fun g hlt q => q.resolve_right (fun k => by have := (hg g k).1; omega)
  refine ⟨h.len, fun t => VR.move hag ho (fun _ _ => rfl) (h.env t), fun id b hid => BR.move hag ho rfl ?_ (fun g hgb => hb.block g (h.lo g (h.owned id b g hid hgb).1) (fun q => q)) (h.sto id b hid), h.apart, fun id b g hid hgb => ⟨.inl (h.owned id b g hid hgb).1, (h.owned id b g hid hgb).2⟩, fun g q => ?_, fun g q => .inl (h.base g q), h.fr, h.below.trans hb (fun _ _ q => q.elim), h.defers⟩
  · cases b <;> simp
  · rcases q with q | q
    · exact Nat.lt_of_lt_of_le (h.lo g q) hb.size
    · exact (hg g q).2
theorem eqDL_eq {α : Type} {f : α → α → Bool} (hf : ∀ a b, f a b = true → a = b) : ∀ {l m : List α}, eqD.eqDL f l m = true → l = m
  | [], [], _ => rfl
  | [], _ :: _, h => by cases h
  | _ :: _, [], h => by cases h
  | a :: l, b :: m, h => by
    rw [eqD.eqDL, Bool.and_eq_true] at h
    rw [hf a b h.1, eqDL_eq hf h.2]
theorem eqD_eq : ∀ {t : Ty} {a b : t.den}, eqD t a b = true → a = b
  | .int _, a, b, h => by simpa [eqD] using h
  | .bool, a, b, h => by simpa [eqD] using h
  | .str, a, b, h => by
    have h2 : (a == b) = true := by rw [beq_toListBytes]; exact h
    have h3 : (a.data == b.data) = true := h2
    exact ByteArray.ext (by simpa using h3)
  | .list _ _ t, a, b, h => eqDL_eq (fun _ _ => eqD_eq) (by simpa [eqD] using h)
  | .prod x y, a, b, h => by
    rw [eqD, Bool.and_eq_true] at h
    exact Prod.ext (eqD_eq h.1) (eqD_eq h.2)
  | .unit, _, _, _ => rfl
theorem nilOr_some {t : Ty} {b : Bool} {x y z : Option t.den} {q : t.den} (h : nilOr t b x y z = some q) : (b = true ∧ x = some q ∧ y = some q) ∨ (b = false ∧ z = some q) := by
  unfold nilOr at h
  split at h
  · rename_i hb
    rw [Option.bind_eq_some_iff] at h
    obtain ⟨p, h1, h⟩ := h
    rw [Option.bind_eq_some_iff] at h
    obtain ⟨p', h2, h⟩ := h
    split at h
    · rename_i he
      cases h
      exact .inl ⟨hb, h1, by rw [h2, ← eqD_eq he]⟩
    · cases h
  · rename_i hb
    exact .inr ⟨by simpa using hb, h⟩
theorem callN_ok (hcall : ∀ f g args x, callT f g args = some x → CallOk P f g.res args x) {f : FuncId} {g : FSig} {args : List PV} {x : g.res.den} (h : callN callT f g args = some x) : CallOk P f g.res args x := by
  unfold callN at h
  split at h
  · rename_i e t l hp
    rcases nilOr_some h with ⟨hl, h1, h2⟩ | ⟨_, h1⟩
    · obtain ⟨fn, hf, hb, k1⟩ := hcall _ _ _ _ h1
      obtain ⟨fn', hf', _, k2⟩ := hcall _ _ _ _ h2
      rw [hf] at hf'
      cases hf'
      refine ⟨fn, hf, hb, fun w F vs hF hv => ?_⟩
      have hl0 : l = [] := by simpa using hl
      subst hl0
      have hv0 := hv
      rw [VRs] at hv0
      obtain ⟨v, r, rfl, hv1, hv2⟩ := hv0
      rw [VRs] at hv2
      subst hv2
      rw [VR, RdC.eq_def] at hv1
      obtain ⟨A, k, e1, _, _, h3, _⟩ := hv1
      cases e1
      cases A with
      | none =>
        have := h3 rfl
        subst this
        exact k1 w F _ hF (by rw [VRs]; exact ⟨_, _, rfl, by rw [VR]; rfl, by rw [VRs]⟩)
      | some b => exact k2 w F _ hF (by rw [VRs]; exact ⟨_, _, rfl, by rw [VR]; exact ⟨b, k, rfl⟩, by rw [VRs]⟩)
    · exact hcall _ _ _ _ h1
  · exact hcall _ _ _ _ h
theorem callIn_sound (hcall : ∀ f g args x, callT f g args = some x → CallOk P f g.res args x) {f : FuncId} {g : FSig} {fn : Func} (hfn : P.funcs[f]? = some fn) {d : Nat} {args : List PV} {vs : List Value} {K : PV → St → Option R} (h : callIn P callT f g fn d s args K = some r) (hr : RelX ρ own c s a w) (hv : VRs ρ own w args vs) {Q : Ending → World → Prop}
    (hQ : ∀ ρ' own' p v s' w', K p s' = some r → RelX ρ' own' c s' a w' → VR ρ' own' w' p v → Q (.returned v) w') : fn.body.isSome = true ∧ Calls P f vs.toArray w Q := by
  unfold callIn at h
  split at h
  · cases h
  · rename_i hl
    rw [Option.bind_eq_some_iff] at h
    obtain ⟨x, hx, h⟩ := h
    obtain ⟨fn', hfn', hbody, hok⟩ := callN_ok hcall hx
    rw [hfn] at hfn'
    cases hfn'
    refine ⟨hbody, ?_⟩
    have fin : ∀ F : Nat → Prop, (∀ q, F q → own q) → ((∀ q, ¬ F q) ∨ holdsOwnL args = false) → (g.res.lends = true → ∀ q, own q → F q) → Calls P f vs.toArray w Q := by
      intro F hF hfree hlend
      refine (hok w F vs (fun q k => hr.lo q (hF q k)) (canonL_sound g.par (viewList (fun p v hp => viewArg_sound hr ⟨hF, hfree.imp id (fun k => free_mem k hp)⟩) hv))).mono ?_
      intro e w' hp
      cases e with
      | returned v =>
        obtain ⟨own1, gs, us, rfl, hb, hF1, hgs, hnd, hres, hsh⟩ := hp
        have hr1 := hr.grown gs hb (fun q k => (hgs q k).2)
        have hres' : ResR (fun q => own q ∨ q ∈ gs) w' gs g.res x (us.flatMap (·.cells.toList)) := hres.sub (fun hl q k => by
          rcases k with k | k
          · exact hF1 q (hlend hl q k)
          · exact (hgs q k).1)
        obtain ⟨cs, b', s', ρ', h, laid⟩ := resCells_sound h hr1 hres' (fun q k => ⟨.inr k, Nat.le_trans hr.below.size (hgs q k).2.1⟩) hnd (fun j y q hj hgj k => by
          have := hr.lo q (hr.owned j y q hj hgj).1
          have := (hgs q k).2.1
          omega)
        split at h
        · rename_i ps hps
          exact hQ _ _ _ _ _ _ h laid.rel (wrap_sound (deal_sound hps hsh laid.vals))
        · cases h
      | panicked chain => exact hp.elim
      | outgrown => exact hp.elim
    cases hlend : g.res.lends with
    | false => exact fin (fun _ => False) (fun _ q => q.elim) (.inl fun _ q => q) (fun q => by rw [hlend] at q; cases q)
    | true => exact fin own (fun _ q => q) (.inr (by rw [hlend] at hl; simpa using hl)) (fun _ _ q => q)
/-- The model's entry for math/bits.Sub64. -/
def sub64E : Array Value → Sem Value := fun args => do
  let (x, y, b) ← Extern.MathBitsCarry.three "Sub64" args
  pure (Extern.MathBitsCarry.pair ((x + Extern.MathBitsCarry.m64 - y - b) % Extern.MathBitsCarry.m64) (if x < y + b then 1 else 0))
theorem three_run {α : Type} (nm : String) (x y k : Int) (K : Nat × Nat × Nat → Sem α) (w : World) : (Extern.MathBitsCarry.three nm #[.int .u64 x, .int .u64 y, .int .u64 k] >>= K).run P w = (if k.toNat > 1 then ((do unsupported (.noEntry ("extern/math/bits." ++ nm ++ ": a carry that is neither 0 nor 1")); pure (x.toNat, y.toNat, k.toNat) : Sem (Nat × Nat × Nat)) >>= K).run P w else (K (x.toNat, y.toNat, k.toNat)).run P w) := by
  show Sem.run P ((do
    let c := (← asInt (.int .u64 k)).toNat
    if c > 1 then unsupported (.noEntry ("extern/math/bits." ++ nm ++ ": a carry that is neither 0 nor 1"))
    pure ((← asInt (.int .u64 x)).toNat, (← asInt (.int .u64 y)).toNat, c) : Sem (Nat × Nat × Nat)) >>= K) w = _
  have ha : ∀ (q : IntKind) (n : Int) (w : World), (asInt (.int q n)).run P w = .ok n w := fun _ _ _ => rfl
  have hb : ∀ (q : IntKind) (n : Int), asInt (.int q n) = .pure n := fun _ _ => rfl
  have hc : ∀ {β γ : Type} (n : β) (f : β → Sem γ), (Sem.pure n >>= f) = f n := fun _ _ => rfl
  rw [hb, hb, hb]
  simp only [hc]
  by_cases h : k.toNat > 1
  · rw [if_pos h, if_pos h]
  · rw [if_neg h, if_neg h]
    rfl
theorem run_nat {f : FuncId} {fn : Func} (hn : natOf P f = some fn) {args : List PV} {K : PV → Option R} (h : evNat fn.name args K = some r) {vs : List Value} (hv : VRs ρ own w args vs) :
    ∃ p v, K p = some r ∧ VR ρ own w p v ∧ (callFunc f vs.toArray).run P w = .ok (.value v) w := by
  unfold natOf at hn
  split at hn
  case h_2 => cases hn
  rename_i fn' hf
  split at hn
  case h_2 => cases hn
  rename_i hb
  split at hn
  case isFalse => cases hn
  rename_i hor
  have hor' : fn'.origin = "" := by simpa using hor
  cases hn
  have hbn : fn.body.isNone = true := by rw [hb]; rfl
  unfold evNat at h
  split at h
  case h_2 => cases h
  rename_i x y k
  rw [VRs] at hv
  obtain ⟨v0, r0, rfl, e0, hv⟩ := hv
  rw [VRs] at hv
  obtain ⟨v1, r1, rfl, e1, hv⟩ := hv
  rw [VRs] at hv
  obtain ⟨v2, r2, rfl, e2, hv⟩ := hv
  rw [VRs] at hv
  subst hv
  rw [VR] at e0 e1 e2
  subst e0 e1 e2
  have pair : ∀ (m n : Nat), VR ρ own w (.tuple [.int .u64 (m : Int), .int .u64 (n : Int)]) (Extern.MathBitsCarry.pair m n) := by
    intro m n
    rw [VR]
    refine ⟨_, rfl, ?_⟩
    rw [VRs]
    refine ⟨_, _, rfl, by rw [VR]; rfl, ?_⟩
    rw [VRs]
    refine ⟨_, _, rfl, by rw [VR]; rfl, ?_⟩
    rw [VRs]
  split at h
  · rename_i hname
    split at h
    case isFalse => cases h
    rename_i hk
    have hnm : fn.name = "math/bits.Add64" := by simpa using hname
    refine ⟨_, _, h, pair _ _, ?_⟩
    rw [run_callFunc_extern hf (by rw [hnm]; kernel_rfl) hbn (by unfold Extern.findNext; rw [hnm, hor']; kernel_rfl) (e := add64Entry) (by unfold Extern.find; rw [hnm, hor']; kernel_rfl)]
    have : k.toNat = 0 ∨ k.toNat = 1 := by omega
    have hkk : ∀ m : Nat, k.toNat = m → m ≤ 1 → (add64Entry #[.int .u64 x, .int .u64 y, .int .u64 k]).run P w = .ok (Extern.MathBitsCarry.pair ((x.toNat + y.toNat + m) % Extern.MathBitsCarry.m64) ((x.toNat + y.toNat + m) / Extern.MathBitsCarry.m64)) w := by
      intro m hm hle
      have hk' : m = 0 ∨ m = 1 := by omega
      unfold add64Entry
      rw [three_run]
      rcases hk' with rfl | rfl <;> simp [hm]
    show ((add64Entry #[.int .u64 x, .int .u64 y, .int .u64 k]).run P w).andThen _ = _
    rw [hkk k.toNat rfl hk]
    rfl
  · split at h
    case isFalse => cases h
    rename_i hname
    split at h
    case isFalse => cases h
    rename_i hk
    have hnm : fn.name = "math/bits.Sub64" := by simpa using hname
    refine ⟨_, _, h, pair _ _, ?_⟩
    rw [run_callFunc_extern hf (by rw [hnm]; kernel_rfl) hbn (by unfold Extern.findNext; rw [hnm, hor']; kernel_rfl) (e := sub64E) (by unfold Extern.find; rw [hnm, hor']; kernel_rfl)]
    have hno : ¬ (k.toNat > 1) := by omega
    have hkk : (sub64E #[.int .u64 x, .int .u64 y, .int .u64 k]).run P w = .ok (Extern.MathBitsCarry.pair ((x.toNat + Extern.MathBitsCarry.m64 - y.toNat - k.toNat) % Extern.MathBitsCarry.m64) (if x.toNat < y.toNat + k.toNat then 1 else 0)) w := by
      unfold sub64E
      rw [three_run]
      have hk' : k.toNat = 0 ∨ k.toNat = 1 := by omega
      rcases hk' with h0 | h0 <;> simp [h0]
    show ((sub64E #[.int .u64 x, .int .u64 y, .int .u64 k]).run P w).andThen _ = _
    rw [hkk]
    rfl
theorem evOp_sound (hS : okS P S = true) (hcall : ∀ f g args x, callT f g args = some x → CallOk P f g.res args x) {o : Oper} {K : PV → St → Option R} (hr : RelX ρ own c s a w) (h : evOp P S callT s o K = some r) {next : Act → World → Prop} {Q : Exit → Act → World → Prop}
    (hn : ∀ ρ' own' p v s' w', K p s' = some r → RelX ρ' own' c s' a w' → VR ρ' own' w' p v → next (a.put o.dst v) w') : o.wp P a w next Q := by
  by_cases hc : ∃ cl x, o.op = .call cl ∧ cl.callee = .value x
  · obtain ⟨cl, x, ho, hx⟩ := hc
    unfold evOp at h
    rw [ho] at h
    simp only [hx] at h
    split at h
    · rename_i f caps ef
      split at h
      · rename_i fn hnat
        split at h
        case h_2 => cases h
        have hv := hr.ev x
        rw [ef, VR] at hv
        obtain ⟨ws, ev, hws⟩ := hv
        rw [VRs] at hws
        have hws0 : ws = #[] := Array.toList_eq_nil_iff.1 hws
        subst hws0
        obtain ⟨p, v, h1, h2, h3⟩ := run_nat hnat h (hr.evs cl.args.toList)
        refine wp_value (v := v) (w' := w) ?_ (hn _ _ _ _ _ _ h1 hr h2)
        have harr : (cl.args.toList.map a.eval).toArray = #[] ++ cl.args.map a.eval ++ #[] := by
          apply Array.ext'
          simp
        simp only [execOp, ho, resolve, hx, ev, Deferred.ofValue]
        rw [harr] at h3
        simpa [invoke] using h3
      rename_i hnat
      split at h
      · rename_i g fn hg hfn
        have hv := hr.ev x
        rw [ef, VR] at hv
        obtain ⟨ws, ev, hws⟩ := hv
        have hname : ¬ (fn.name == "runtime.NumGoroutine") = true := by
          have := List.all_eq_true.1 ((Bool.and_eq_true _ _).mp hS).2 _ (sigOf_mem hg)
          simp only [hfn] at this
          simpa using this
        have hfin : fn.body.isSome = true → Calls P f (cl.args.toList.map a.eval ++ ws.toList).toArray w (fun
            | .returned v, w'' => next (a.put o.dst v) w''
            | .panicked chain, w'' => Q (.panic chain) a w''
            | .outgrown, _ => LetsOut Q) → o.wp P a w next Q := by
          intro hb hcalls
          have hrun : (execOp a.eval o).run P w = .ok (.enter f (cl.args.toList.map a.eval ++ ws.toList).toArray) w := by
            have hbn : fn.body.isNone = false := by
              cases hbb : fn.body with
              | none => rw [hbb] at hb; cases hb
              | some _ => rfl
            have harr : (cl.args.toList.map a.eval ++ ws.toList).toArray = #[] ++ cl.args.map a.eval ++ ws := by
              apply Array.ext'
              simp
            rw [harr]
            simp only [execOp, ho, resolve, hx, ev, Deferred.ofValue]
            have hname' : fn.name ≠ "runtime.NumGoroutine" := by simpa using hname
            have hbn' : fn.body ≠ none := fun q => by rw [q] at hb; cases hb
            simp [invoke, callFunc, hfn, hname', hbn']
          unfold Oper.wp
          rw [hrun]
          exact hcalls
        split at h
        · split at h
          · rename_i f' caps' ef'
            split at h
            · rename_i hff
              have : f' = f := by simpa using hff
              subst this
              obtain ⟨own', hr', _⟩ := hr.cools (ownIdsL (cl.args.toList.map s.ev ++ caps))
              have hv' := hr'.ev x
              rw [ef', VR] at hv'
              obtain ⟨ws', ev', hws'⟩ := hv'
              rw [ev] at ev'
              cases ev'
              obtain ⟨hb, hq⟩ := callIn_sound hcall hfn h hr' ((hr'.evs cl.args.toList).append hws') (Q := fun
                | .returned v, w'' => next (a.put o.dst v) w''
                | .panicked chain, w'' => Q (.panic chain) a w''
                | .outgrown, _ => LetsOut Q) hn
              exact hfin hb hq
            · cases h
          · cases h
        · obtain ⟨hb, hq⟩ := callIn_sound hcall hfn h hr ((hr.evs cl.args.toList).append hws) (Q := fun
            | .returned v, w'' => next (a.put o.dst v) w''
            | .panicked chain, w'' => Q (.panic chain) a w''
            | .outgrown, _ => LetsOut Q) hn
          exact hfin hb hq
      · cases h
    · cases h
  · obtain ⟨ρ', own', p, v, s', w', h1, h2, h3, h4⟩ := evOp_does hr h (fun cl x ho hx => hc ⟨cl, x, ho, hx⟩)
    have := hn ρ' own' p v s' w' h1 h2 h3
    rcases h4 with h4 | ⟨h4, rfl⟩
    · exact wp_value h4 this
    · exact wp_skip_ h4 this
end
end Go.Proofs.Ytionphbdphbpnaa.Pv
