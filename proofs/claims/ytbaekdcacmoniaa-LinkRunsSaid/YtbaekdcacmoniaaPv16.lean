/- Regions. -/
import Derived.Test.YtbaekdcacmoniaaPvD5
import Derived.Test.YtbaekdcacmoniaaPvN1
namespace Go.Proofs.Ytbaekdcacmoniaa.Pv
open Go Go.RowKit

section
variable {R : Type} {r : R} {W0 : World} {c : Cx W0} {P : Program} {S : List (FuncId × FSig)} {callT : (f : FuncId) → (g : FSig) → List PV → Option g.res.den}
theorem yielded_void {ρ : Nat → Value} {own : Nat → Prop} {s : St} {a : Act} {w : World} {ops : Array Oper} (hr : RelX ρ own c s a w) {j t : Nat} (ht : dstAt ops.toList j = some t) (hb : nth s.env t = .tuple []) : yielded ops a.tmps j = none := by
  have hv := hr.env t
  rw [hb, VR] at hv
  obtain ⟨vs, hv, hs⟩ := hv
  rw [VRs] at hs
  have hvs : vs = #[] := Array.toList_eq_nil_iff.1 hs
  subst hvs
  unfold dstAt at ht
  rw [Array.getElem?_toList] at ht
  unfold yielded
  rw [ht, Option.bind_some]
  rw [Array.getD_eq_getD_getElem?] at hv
  cases hq : a.tmps[t]? with
  | none => rfl
  | some v => rw [hq] at hv; cases hv; rfl
theorem evOps_sound (hS : OkS P S W0) (hcall : ∀ f g args x, callT f g args = some x → CallOk W0 P f g args x) {ops : Array Oper} {K : St → Option R} {Q : Exit → Act → World → Prop} (hQ : ∀ ρ' own' s' a' w', K s' = some r → RelX ρ' own' c s' a' w' → Q .normal a' w') :
    ∀ (l : List Nat) {s : St} {a : Act} {w : World} {ρ : Nat → Value} {own : Nat → Prop}, evOps P S callT ops.toList (l.filterMap (fun i => ops[i]?)) s K = some r → RelX ρ own c s a w → wpOps P ops Q l a w
  | [], s, a, w, ρ, own, h, hr => by
    rw [List.filterMap_nil, evOps] at h
    rw [wpOps]
    exact hQ _ _ _ _ _ h hr
  | i :: l, s, a, w, ρ, own, h, hr => by
    rw [wpOps]
    cases ho : ops[i]? with
    | none =>
      rw [List.filterMap_cons_none ho] at h
      exact evOps_sound hS hcall hQ l h hr
    | some o =>
      rw [List.filterMap_cons_some ho, evOps] at h
      simp only
      split at h
      · rename_i hg
        have hw : Region.wanted o (yielded ops a.tmps) = true := by simp [Region.wanted, hg]
        rw [if_pos hw]
        exact .inl (evOp_sound hS hcall hr h fun ρ' own' p v s' w' hK hR hv => evOps_sound hS hcall hQ l hK (hR.puto _ hv))
      · rename_i j want hg
        split at h
        · cases h
        · rename_i t ht
          rcases guardV_some h with ⟨b, eb, h⟩ | ⟨ev, h⟩
          case inr =>
            have hw : ¬ Region.wanted o (yielded ops a.tmps) = true := by simp [Region.wanted, hg, yielded_void hr ht ev]
            rw [if_neg hw]
            exact evOps_sound hS hcall hQ l h (hr.puto _ VR_void)
          have hb := hr.envAt eb
          have hy : yielded ops a.tmps j = some b := by
            unfold dstAt at ht
            rw [Array.getElem?_toList] at ht
            unfold yielded
            rw [ht, Option.bind_some]
            rw [Array.getD_eq_getD_getElem?] at hb
            cases hq : a.tmps[t]? with
            | none => rw [hq] at hb; cases hb
            | some v => rw [hq] at hb; cases hb; rfl
          split at h
          · rename_i e
            subst e
            have hw : Region.wanted o (yielded ops a.tmps) = true := by simp [Region.wanted, hg, hy]
            rw [if_pos hw]
            exact .inl (evOp_sound hS hcall (hr.same (p := .bool b) (by rw [VR]; exact hb)) h fun ρ' own' p v s' w' hK hR hv => evOps_sound hS hcall hQ l hK (hR.puto _ hv))
          · rename_i e
            have hw : ¬ Region.wanted o (yielded ops a.tmps) = true := by simp [Region.wanted, hg, hy, e]
            rw [if_neg hw]
            have hb' : b = !want := by cases b <;> cases want <;> simp_all
            exact evOps_sound hS hcall hQ l h ((hr.same (p := .bool (!want)) (by rw [VR, ← hb']; exact hb)).puto _ VR_void)
theorem range_ops (ops : Array Oper) : (List.range ops.size).filterMap (fun i => ops[i]?) = ops.toList := by
  obtain ⟨l⟩ := ops
  simp only [List.size_toArray, List.getElem?_toArray]
  induction l with
  | nil => rfl
  | cons x l ih =>
    rw [List.length_cons, List.range_succ_eq_map, List.filterMap_cons_some (f := fun i => (x :: l)[i]?) (a := 0) (b := x) rfl, List.filterMap_map]
    congr 1
end
end Go.Proofs.Ytbaekdcacmoniaa.Pv
