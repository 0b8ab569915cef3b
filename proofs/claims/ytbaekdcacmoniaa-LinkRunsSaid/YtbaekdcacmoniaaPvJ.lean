/- Calls in place: a region's operations, in a frame that has other temporaries behind its own. -/
import Derived.Test.YtbaekdcacmoniaaPvD7
import Derived.Test.YtbaekdcacmoniaaPvI
namespace Go.Proofs.Ytbaekdcacmoniaa.Pv
open Go Go.RowKit

section
variable {P : Program} {ops : Array Oper} {lim : Nat} {m : Array Value}
theorem eval_ext {a : Act} {x : Operand} (hs : a.tmps.size = lim) (hx : inB lim x = true) : (extA a m).eval x = a.eval x := by
  cases x with
  | tmp t =>
    have ht : t < a.tmps.size := by rw [hs]; simpa [inB] using hx
    show (a.tmps ++ m).getD t undef = a.tmps.getD t undef
    rw [getD_app, if_pos ht]
  | _ => rfl
theorem put_ext {a : Act} {dst : Option Tmp} {v : Value} (hd : ∀ d, dst = some d → d < a.tmps.size) : (extA a m).put dst v = extA (a.put dst v) m := by
  cases dst with
  | none => rfl
  | some d =>
    have := hd d rfl
    show ({ a with tmps := (a.tmps ++ m).setIfInBounds d v } : Act) = { a with tmps := a.tmps.setIfInBounds d v ++ m }
    congr 1
    apply Array.ext_getElem?
    intro i
    simp only [Array.getElem?_setIfInBounds, Array.getElem?_append, Array.size_append, Array.size_setIfInBounds]
    by_cases e : d = i
    · subst e
      simp [this]
      exact Nat.lt_of_lt_of_le this (Nat.le_add_right _ _)
    · simp [e]
theorem size_put (a : Act) (dst : Option Tmp) (v : Value) : (a.put dst v).tmps.size = a.tmps.size := by
  cases dst with
  | none => rfl
  | some d => show (a.tmps.setIfInBounds d v).size = _; rw [Array.size_setIfInBounds]
theorem opIn_of {o : Oper} (h : opIn lim o = true) : (∀ cs b, o.op ≠ .select cs b) ∧ (∀ x ∈ o.op.operands, inB lim x = true) ∧ ∀ d, o.dst = some d → d < lim := by
  unfold opIn at h
  rw [Bool.and_eq_true, Bool.and_eq_true] at h
  obtain ⟨⟨h1, h2⟩, h3⟩ := h
  refine ⟨fun cs b e => (by rw [e] at h1; cases h1), fun x hx => List.all_eq_true.1 h2 x (by simpa using hx), fun d e => ?_⟩
  rw [e] at h3
  simpa using h3
theorem yielded_ext {a : Act} (hin : ∀ o ∈ ops, opIn lim o = true) (hs : a.tmps.size = lim) : yielded ops (extA a m).tmps = yielded ops a.tmps := by
  funext j
  unfold yielded
  cases ho : ops[j]? with
  | none => rfl
  | some o =>
    cases hd : o.dst with
    | none => simp [hd]
    | some d =>
      have hlt : d < a.tmps.size := by rw [hs]; exact (opIn_of (hin o (Array.mem_of_getElem? ho))).2.2 d hd
      have : (extA a m).tmps[d]? = a.tmps[d]? := by
        show (a.tmps ++ m)[d]? = _
        rw [Array.getElem?_append_left hlt]
      simp only [Option.bind_some, hd, this]
theorem wpOps_ext (hin : ∀ o ∈ ops, opIn lim o = true) {G : Act → World → Prop} : ∀ (l : List Nat) (a : Act) (w : World), a.tmps.size = lim → wpOps P ops (fun e a w => e = .normal ∧ G a w) l (extA a m) w → wpOps P ops (fun e a w => e = .normal ∧ a.tmps.size = lim ∧ G (extA a m) w) l a w
  | [], a, w, hs, h => by
    rw [wpOps] at h ⊢
    exact ⟨rfl, hs, h.2⟩
  | i :: rest, a, w, hs, h => by
    have ih := fun a w hs h => wpOps_ext hin (G := G) rest a w hs h
    rw [wpOps] at h ⊢
    cases ho : ops[i]? with
    | none =>
      rw [ho] at h
      exact ih a w hs h
    | some o =>
      rw [ho] at h
      simp only at h ⊢
      obtain ⟨h1, h2, h3⟩ := opIn_of (hin o (Array.mem_of_getElem? ho))
      have hpd : ∀ d, o.dst = some d → d < a.tmps.size := fun d e => by rw [hs]; exact h3 d e
      have hex : execOp (extA a m).eval o = execOp a.eval o := execOp_congr o h1 fun x hx => eval_ext hs (h2 x hx)
      have hnext : ∀ v w', wpOps P ops (fun e a w => e = .normal ∧ G a w) rest ((extA a m).put o.dst v) w' → wpOps P ops (fun e a w => e = .normal ∧ a.tmps.size = lim ∧ G (extA a m) w) rest (a.put o.dst v) w' := fun v w' q => by
        rw [put_ext hpd] at q
        exact ih _ _ (by rw [size_put]; exact hs) q
      rw [yielded_ext hin hs] at h
      split at h
      · rename_i hw
        rw [if_pos hw]
        rcases h with h | ⟨_, a0, w0, q, _⟩
        case inr => cases q
        left
        unfold Oper.wp at h ⊢
        rw [hex] at h
        generalize (execOp a.eval o).run P w = res at h
        cases res with
        | ok n w' =>
          cases n <;> simp only [Oper.upon] at h ⊢
          case value v => exact hnext v w' h
          case skip => exact hnext _ w' h
          case defer d =>
            have e : ({ extA a m with defers := d :: (extA a m).defers } : Act).put o.dst undef = extA (({ a with defers := d :: a.defers } : Act).put o.dst undef) m := put_ext (a := { a with defers := d :: a.defers }) hpd
            rw [e] at h
            exact ih _ _ (by rw [size_put]; exact hs) h
          case enter f args =>
            refine Calls.mono h fun e w'' he => ?_
            cases e with
            | returned v => exact hnext v w'' he
            | panicked ch => cases he.1
            | outgrown => obtain ⟨_, _, q, _⟩ := he; cases q
          case row row args => exact Rows.mono h fun v w'' he => hnext v w'' he
        | halt x w' =>
          cases x <;> simp only [Oper.upon] at h ⊢
          case panic v => cases h.1
      · rename_i hw
        rw [if_neg hw]
        exact hnext _ w h
end
section
variable {R : Type} {r : R} {W0 : World} {P : Program} {S : List (FuncId × FSig)} {callT : (f : FuncId) → (g : FSig) → List PV → Option g.res.den}
theorem inlAt_fn {o : Oper} {p : FuncId × List Operand} (h : inlAt S o = some p) : inlFn o = some p := by
  unfold inlAt at h
  split at h
  · rename_i f as hf
    split at h
    · cases h
      exact hf
    · cases h
  · cases h
/-- What is asked of calls in place. -/
def InlOk (P : Program) (W0 : World) (r : R) (inl : InlT R) : Prop :=
  ∀ (c : Cx W0) (ρ : Nat → Value) (own : Nat → Prop) (s : St) (a : Act) (w : World) (f : FuncId) (args : List PV) (K : PV → St → Option R) (vs : List Value) (Q : Value → World → Prop), inl f s args K = some r → RelX ρ own c s a w → VRs ρ own w args vs →
    (∀ ρ' own' p v s' w', K p s' = some r → RelX ρ' own' c s' a w' → VR ρ' own' w' p v → Q v w') → ∃ fn, P.funcs[f]? = some fn ∧ fn.body ≠ none ∧ (fn.name == "runtime.NumGoroutine") = false ∧ Calls P f vs.toArray w fun e w' => ∃ v, e = .returned v ∧ Q v w'
theorem evOpsI_sound {c : Cx W0} (hS : OkS P S W0) (hcall : ∀ f g args x, callT f g args = some x → CallOk W0 P f g args x) {inl : InlT R} (hI : InlOk P W0 r inl) {ops : Array Oper} {K : St → Option R} {Q : Exit → Act → World → Prop} (hQ : ∀ ρ' own' s' a' w', K s' = some r → RelX ρ' own' c s' a' w' → Q .normal a' w') :
    ∀ (l : List Nat) {s : St} {a : Act} {w : World} {ρ : Nat → Value} {own : Nat → Prop}, evOpsI P S callT inl ops.toList (l.filterMap (fun i => ops[i]?)) s K = some r → RelX ρ own c s a w → wpOps P ops Q l a w
  | [], s, a, w, ρ, own, h, hr => by
    rw [List.filterMap_nil, evOpsI] at h
    rw [wpOps]
    exact hQ _ _ _ _ _ h hr
  | i :: l, s, a, w, ρ, own, h, hr => by
    rw [wpOps]
    cases ho : ops[i]? with
    | none =>
      rw [List.filterMap_cons_none ho] at h
      exact evOpsI_sound hS hcall hI hQ l h hr
    | some o =>
      rw [List.filterMap_cons_some ho, evOpsI] at h
      simp only
      split at h
      · rename_i f as hf
        have hf := inlAt_fn hf
        unfold inlFn at hf
        split at hf
        case h_2 => cases hf
        rename_i cl hop hg
        split at hf
        case h_2 => cases hf
        rename_i f' hcl
        split at hf
        case isFalse => cases hf
        cases hf
        have hw : Region.wanted o (yielded ops a.tmps) = true := by simp [Region.wanted, hg]
        rw [if_pos hw]
        left
        obtain ⟨fn, hfn, hbn, hname, hcalls⟩ := hI c ρ own s a w f _ _ (cl.args.toList.map a.eval) (fun v w' => wpOps P ops Q l (a.put o.dst v) w') h hr (hr.evs cl.args.toList) fun ρ' own' p v s' w' hK hR hv => evOpsI_sound hS hcall hI hQ l hK (hR.puto _ hv)
        have hrun : (execOp a.eval o).run P w = .ok (.enter f (cl.args.toList.map a.eval).toArray) w := by
          have harr : (cl.args.toList.map a.eval).toArray = #[] ++ cl.args.map a.eval ++ #[] := by
            apply Array.ext'
            simp
          rw [harr]
          simp only [execOp, hop, resolve, hcl, Act.eval, Deferred.ofValue]
          have hname' : ¬ fn.name = "runtime.NumGoroutine" := by simpa using hname
          simp [invoke, callFunc, hfn, hname', hbn]
        unfold Oper.wp
        rw [hrun]
        refine hcalls.mono ?_
        rintro e w'' ⟨v, rfl, hq⟩
        exact hq
      split at h
      · rename_i hg
        have hw : Region.wanted o (yielded ops a.tmps) = true := by simp [Region.wanted, hg]
        rw [if_pos hw]
        exact .inl (evOp_sound hS hcall hr h fun ρ' own' p v s' w' hK hR hv => evOpsI_sound hS hcall hI hQ l hK (hR.puto _ hv))
      · rename_i j want hg
        split at h
        · cases h
        · rename_i t ht
          rcases guardV_some h with ⟨b, eb, h⟩ | ⟨ev, h⟩
          case inr =>
            have hw : ¬ Region.wanted o (yielded ops a.tmps) = true := by simp [Region.wanted, hg, yielded_void hr ht ev]
            rw [if_neg hw]
            exact evOpsI_sound hS hcall hI hQ l h (hr.puto _ VR_void)
          have hb := hr.envAt eb
          have hy : yielded ops a.tmps j = some b := by
            unfold dstAt at ht
            rw [Array.getElem?_toList] at ht
            unfold yielded
            rw [ht, Option.bind_some]
            rw [Array.getD_eq_getD_getElem?] at hb
            cases hq : a.tmps[t]? with
            | none => rw [hq] at hb; cases hb
            | some v => rw [hq] at hb; cases hb; rfl
          split at h
          · rename_i e
            subst e
            have hw : Region.wanted o (yielded ops a.tmps) = true := by simp [Region.wanted, hg, hy]
            rw [if_pos hw]
            exact .inl (evOp_sound hS hcall (hr.same (p := .bool b) (by rw [VR]; exact hb)) h fun ρ' own' p v s' w' hK hR hv => evOpsI_sound hS hcall hI hQ l hK (hR.puto _ hv))
          · rename_i e
            have hw : ¬ Region.wanted o (yielded ops a.tmps) = true := by simp [Region.wanted, hg, hy, e]
            rw [if_neg hw]
            have hb' : b = !want := by cases b <;> cases want <;> simp_all
            exact evOpsI_sound hS hcall hI hQ l h ((hr.same (p := .bool (!want)) (by rw [VR, ← hb']; exact hb)).puto _ VR_void)
/-- A frame whose own temporaries are lim, or that has nothing behind them. -/
def Virt (lim : Nat) (m : Array Value) (a : Act) : Prop := (lim = 0 ∧ m = #[]) ∨ (lim ≠ 0 ∧ a.tmps.size = lim)
theorem evRun_sound {c : Cx W0} (hS : OkS P S W0) (hcall : ∀ f g args x, callT f g args = some x → CallOk W0 P f g args x) {inl : InlT R} (hI : InlOk P W0 r inl) {ann : List (Nat × Point)} {lim id : Nat} {draw : Bool} {ops : Array Oper} {m : Array Value} {s : St} {a : Act} {w : World} {ρ : Nat → Value} {own : Nat → Prop} {K : St → Option R}
    (h : evRun P S callT inl ann lim id draw ops s K = some r) (hr : RelX ρ own c s (extA a m) w) (hv : Virt lim m a) : (Code.region id ops draw).wp P (fun e a' w' => e = .normal ∧ Virt lim m a' ∧ ∃ ρ' own' s', K s' = some r ∧ RelX ρ' own' c s' (extA a' m) w') a w := by
  unfold evRun at h
  split at h
  case isFalse => cases h
  rename_i hlim
  have key : RegW P draw ops (fun e a' w' => e = .normal ∧ ∃ ρ' own' s', K s' = some r ∧ RelX ρ' own' c s' a' w') (extA a m) w := by
    split at h
    · split at h
      · cases h
      · rename_i hd
        have hd' : draw = false := by simpa using hd
        subst hd'
        unfold RegW
        rw [if_neg Bool.false_ne_true]
        refine evOpsI_sound hS hcall hI (Q := fun e a' w' => e = .normal ∧ ∃ ρ' own' s', K s' = some r ∧ RelX ρ' own' c s' a' w') (fun ρ' own' s' a' w' h1 h2 => ⟨rfl, ρ', own', s', h1, h2⟩) (List.range ops.size) (s := s) ?_ hr
        rw [range_ops]
        exact h
    · exact evReg_sound hS hcall h hr
  rcases hv with ⟨h0, rfl⟩ | ⟨h0, hs⟩
  · rw [extA_nil] at key
    refine wp_mono key.wp ?_
    rintro e a' w' ⟨h1, h2⟩
    exact ⟨h1, .inl ⟨h0, rfl⟩, by rw [extA_nil]; exact h2⟩
  · have hin : ∀ o ∈ ops, opIn lim o = true := by
      have hb : Nat.beq lim 0 = false := by
        cases hq : Nat.beq lim 0 with
        | false => rfl
        | true => exact absurd (Nat.eq_of_beq_eq_true hq) h0
      rw [hb, Bool.false_or] at hlim
      exact fun o ho => List.all_eq_true.1 hlim o (by simpa using ho)
    have key2 : RegW P draw ops (fun e a' w' => e = .normal ∧ a'.tmps.size = lim ∧ ∃ ρ' own' s', K s' = some r ∧ RelX ρ' own' c s' (extA a' m) w') a w := by
      unfold RegW at key ⊢
      split at key
      · rename_i e
        rw [if_pos e]
        exact fun t => wpOps_ext hin _ a _ hs (key t)
      · rename_i e
        rw [if_neg e]
        exact wpOps_ext hin _ a _ hs key
    refine wp_mono key2.wp ?_
    rintro e a' w' ⟨h1, h2, h3⟩
    exact ⟨h1, .inr ⟨h0, h2⟩, h3⟩
end
end Go.Proofs.Ytbaekdcacmoniaa.Pv
