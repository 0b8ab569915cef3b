/- Calls by the machine, with a count of rounds: sound. -/
import Derived.Test.YtionphbdphbpnaaPv19
namespace Go.Proofs.Ytionphbdphbpnaa.Pv
open Go Go.RowKit

section
variable {P : Program} {S : List (FuncId × FSig)}
theorem nth_app : ∀ (l m : List PV) (t : Nat), nth (l ++ m) t = if t < l.length then nth l t else nth m (t - l.length)
  | [], m, t => by simp
  | x :: l, m, 0 => by simp [nth]
  | x :: l, m, t + 1 => by
    rw [List.cons_append, nth, nth, nth_app l m t, List.length_cons]
    by_cases h : t < l.length
    · rw [if_pos h, if_pos (by omega)]
    · rw [if_neg h, if_neg (by omega), Nat.add_sub_add_right]
theorem nth_repl : ∀ (n t : Nat), nth (List.replicate n PV.undef) t = .undef
  | 0, t => by cases t <;> rfl
  | n + 1, 0 => rfl
  | n + 1, t + 1 => by
    rw [List.replicate_succ, nth]
    exact nth_repl n t
theorem VRs.nth {ρ : Nat → Value} {own : Nat → Prop} {w : World} : ∀ {ps : List PV} {vs : List Value}, VRs ρ own w ps vs → ∀ t, VR ρ own w (nth ps t) (vs.getD t undef)
  | [], _, h, t => by
    rw [Pv.nth] <;> first | (rw [VR]; trivial) | skip
  | p :: ps, _, h, 0 => by
    rw [VRs] at h
    obtain ⟨v, r, rfl, h1, _⟩ := h
    exact h1
  | p :: ps, _, h, t + 1 => by
    rw [VRs] at h
    obtain ⟨v, r, rfl, _, h2⟩ := h
    exact h2.nth t
theorem begin_rel {w : World} {F : Nat → Prop} (hF : ∀ g, F g → g < w.heap.size) {args : List PV} {vs : List Value} (hv : VRs (fun _ => undef) F w args vs) (n : Nat) :
    RelX (fun _ => undef) F ⟨w, F, fun _ => False⟩ ⟨args ++ List.replicate (n - args.length) .undef, []⟩ { tmps := vs.toArray ++ Array.replicate (n - vs.toArray.size) undef, defers := [] } w := by
  have hl := hv.len
  refine ⟨?_, fun t => ?_, fun id b h => (by cases h), fun i j x y g h => (by cases h), fun id b g h => (by cases h), hF, fun _ q => q, hF, Beneath.refl _ _, rfl⟩
  · simp [hl]
  · show VR _ _ _ (nth (args ++ _) t) _
    rw [nth_app]
    split
    · rename_i ht
      have := hv.nth t
      have e : (vs.toArray ++ Array.replicate (n - vs.toArray.size) undef).getD t undef = vs.getD t undef := by
        rw [Array.getD_eq_getD_getElem?, Array.getElem?_append_left (by simp; omega), List.getElem?_toArray, List.getD_eq_getElem?_getD]
      rw [e]
      exact this
    · rw [nth_repl, VR]
      trivial
theorem calls_of_fin {f : FuncId} {fn : Func} {co : Code} (hf : P.funcs[f]? = some fn) (hb : fn.body = some co) {args : Array Value} {w : World} {Q : Ending → World → Prop}
    (h : ∀ (b : Frame) (cs : List Frame), ∃ a' w' todo v, a'.defers = [] ∧ Steps P (lone (b.at { tmps := args ++ Array.replicate (fn.ntmps - args.size) undef, defers := [] } [.code co]) cs w) (lone { b.at a' todo with mode := .returning } cs w') ∧ (results fn a'.tmps).run P w' = .ok v w' ∧ Q (.returned v) w') : Calls P f args w Q := by
  intro cs
  let b : Frame := { (default : Frame) with fn := f, kind := .normal }
  have henter : Frame.enter P f args .normal = b.at { tmps := args ++ Array.replicate (fn.ntmps - args.size) undef, defers := [] } [.code co] := by
    simp [Frame.enter, Frame.at, hf, hb, b]
  obtain ⟨a', w', todo, v, hd, hs, hr, hQ⟩ := h b cs
  rw [← henter] at hs
  exact ⟨.returned v, w', _, hQ, hs, rfl, rfl, hd, rfl, fn, hf, hr⟩
theorem runF_sound (hS : okS P S = true) : ∀ (k : Nat) {R : Type} {r : R} {ann : List (Nat × Point)} {fin : St → Option R} {its : List It} {s : St} {c : Cx} {b : Frame} {cs : List Frame} {a : Act} {w : World} {ρ : Nat → Value} {own : Nat → Prop},
    runF P S k ann fin its s = some r → RelX ρ own c s a w → Fin P c b cs fin r (lone (b.at a (its.map itm)) cs w)
  | 0, R, r, ann, fin, its, s, c, b, cs, a, w, ρ, own, h, hr => by
    rw [runF] at h
    cases h
  | k + 1, R, r, ann, fin, its, s, c, b, cs, a, w, ρ, own, h, hr => by
    rw [runF] at h
    refine run1_sound hS ?_ (fun its s a w ρ own h hr => runF_sound hS k h hr) gas its h hr
    intro f g args x hx
    split at hx
    · cases hx
    · rename_i fn hfn
      split at hx
      · cases hx
      · rename_i co hco
        refine ⟨fn, hfn, by rw [hco]; rfl, fun w F vs hF hv => ?_⟩
        refine calls_of_fin hfn hco fun b cs => ?_
        have hrel := begin_rel hF hv fn.ntmps
        obtain ⟨ρ', own', s', a', w', todo, h1, h2, h3⟩ := runF_sound hS k (b := b) (cs := cs) hx hrel
        obtain ⟨own1, gs, us, q1, q2, q3, q4, q5, q6⟩ := finT_sound h2 h1
        exact ⟨a', w', todo, wrapV us, h2.defers, h3, q1, own1, gs, us, rfl, h2.below, q2, q3, q4, q5, q6⟩
/-- A call by the machine. -/
theorem callF_sound (hS : okS P S = true) {k : Nat} {f : FuncId} {g : FSig} {args : List PV} {x : g.res.den} (h : callF P S k f g args = some x) : CallOk P f g.res args x := by
  unfold callF at h
  split at h
  · cases h
  · rename_i fn hfn
    split at h
    · cases h
    · rename_i co hco
      refine ⟨fn, hfn, by rw [hco]; rfl, fun w F vs hF hv => ?_⟩
      refine calls_of_fin hfn hco fun b cs => ?_
      have hrel := begin_rel hF hv fn.ntmps
      obtain ⟨ρ', own', s', a', w', todo, h1, h2, h3⟩ := runF_sound hS k (b := b) (cs := cs) h hrel
      obtain ⟨own1, gs, us, q1, q2, q3, q4, q5, q6⟩ := finT_sound h2 h1
      exact ⟨a', w', todo, wrapV us, h2.defers, h3, q1, own1, gs, us, rfl, h2.below, q2, q3, q4, q5, q6⟩
end
end Go.Proofs.Ytionphbdphbpnaa.Pv
