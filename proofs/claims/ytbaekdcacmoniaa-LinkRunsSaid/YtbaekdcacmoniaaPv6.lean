/- More operations that leave the world alone. -/
import Derived.Test.YtbaekdcacmoniaaPv5
import Derived.Laws.IdiomStrings
namespace Go.Proofs.Ytbaekdcacmoniaa.Pv
open Go Go.RowKit

section
variable {R : Type} {r : R} {ρ : Nat → Value} {own : Nat → Prop} {W0 : World} {c : Cx W0} {w : World} {s : St} {a : Act} {P : Program}
theorem run_un {op : UnOp} {x : PV} {K : PV → Option R} (h : evUn op x K = some r) {v : Value} (hv : VR ρ own w x v) : ∃ p u, K p = some r ∧ VR ρ own w p u ∧ (Op.unary op v).run P w = .ok u w := by
  unfold evUn at h
  split at h
  · rw [VR] at hv
    subst hv
    exact ⟨_, _, h, by rw [VR], by simp [Op.unary, Op.intArith]⟩
  · rw [VR] at hv
    subst hv
    exact ⟨_, _, h, by rw [VR], by simp [Op.unary]⟩
  · rw [VR] at hv
    subst hv
    exact ⟨_, _, h, by rw [VR], by simp [Op.unary, Op.intBits, bitop]⟩
  · cases h
theorem fieldOff_info {st : TypeId} {f : Nat} {fd : Field} (h : fieldOff P st f = some fd) : ∃ fs n, P.underlying st = some (.struct fs) ∧ fs[f]? = some fd ∧ sizeT P fd.type = some (n + 1) := by
  unfold fieldOff at h
  split at h
  · rename_i fs hu
    split at h
    · rename_i d hf
      split at h
      · rename_i n hn
        cases h
        exact ⟨fs, n, hu, by simpa using hf, hn⟩
      · cases h
    · cases h
  · cases h
theorem run_fieldAt_of {st : TypeId} {f : Nat} {fd : Field} (h : fieldOff P st f = some fd) (A : Addr) : (Instr.fieldAt st (.pointer (some A)) f).run P w = .ok (.pointer (some (A.add fd.offset))) w := by
  obtain ⟨fs, n, hu, hf, hn⟩ := fieldOff_info h
  simp [Instr.fieldAt, run_underlying hu, hf, Instr.sureAddr, fieldPlace, run_sizeOf_of hn]
theorem run_field_of {st : TypeId} {f : Nat} {fd : Field} (h : fieldOff P st f = some fd) {cs : List PV} {p : PV} (hp : partT P fd.type cs fd.offset = some p) {vs : Array Value} (hv : VRs ρ own w cs vs.toList) :
    ∃ u, (Instr.field st (.agg vs) f).run P w = .ok u w ∧ VR ρ own w p u := by
  obtain ⟨fs, n, hu, hf, hn⟩ := fieldOff_info h
  obtain ⟨u, h1, h2⟩ := run_part_of hp hv
  exact ⟨u, by simp [Instr.field, run_underlying hu, hf, asAgg, h1], h2⟩
theorem run_extract_of {vs : List PV} {i : Nat} {p : PV} (h : vs[i]? = some p) {us : Array Value} (hv : VRs ρ own w vs us.toList) : ∃ u, (Instr.extract (.tuple us) i).run P w = .ok u w ∧ VR ρ own w p u := by
  obtain ⟨u, h1, h2⟩ := hv.get i h
  have : us[i]? = some u := by simpa using h1
  exact ⟨u, by simp [Instr.extract, this], h2⟩
theorem RdC_list {own : Nat → Prop} {w : World} {o : Bool} {e : TypeId} {t : Ty} {l : List t.den} {v : Value} (h : RdC own w (.list o e t) l [v]) : ∃ (A : Option Addr) (k : Nat), v = .slice A l.length k ∧ l.length ≤ k ∧ k ≤ maxLen ∧ (A = none → k = 0) ∧
    ∀ (i : Nat) (x : t.den), l[i]? = some x → ∃ (b : Addr) (u : List Value), A = some b ∧ ¬ own b.block ∧ b.block < w.heap.size ∧ u.length = t.sz ∧ RdC own w t x u ∧ ∀ (j : Nat) (y : Value), u[j]? = some y → w.cell? (b.add (i * t.sz + j)) = some y := by
  rw [RdC.eq_def] at h
  obtain ⟨A, k, e1, h1, h2, h3, h4⟩ := h
  cases e1
  exact ⟨A, k, rfl, h1, h2, h3, h4⟩
/-- A slice's value, of whatever kind: how long it is. -/
theorem len_of {x : PV} {n : Nat} (h : lenPV s x = some n) (hr : RelX ρ own c s a w) {v : Value} (hv : VR ρ own w x v) : (∃ b, v = .string b ∧ n = b.size) ∨ ∃ A k, v = .slice A n k := by
  unfold lenPV at h
  split at h
  · rw [VR] at hv
    cases h
    exact .inl ⟨_, hv, rfl⟩
  · rw [VR] at hv
    cases h
    exact .inr ⟨_, _, hv⟩
  · rw [VR] at hv
    cases h
    obtain ⟨A, rfl⟩ := hv
    exact .inr ⟨_, _, rfl⟩
  · cases h
    obtain ⟨A, k, e, _⟩ := RdC_list (VR_row hv false)
    exact .inr ⟨A, k, e⟩
  · split at h
    · rename_i hl
      cases h
      rw [VR] at hv
      replace hv := hv.1
      rcases hr.sto _ _ hl with ⟨⟨A, e1⟩, e2⟩ | ⟨g, k, vs, e, _⟩
      · subst e2
        exact .inr ⟨A, 0, hv.trans e1⟩
      · exact .inr ⟨_, _, hv.trans e⟩
    · cases h
  · split at h
    · rename_i hl
      cases h
      rw [VR] at hv
      obtain ⟨us, e⟩ := hv
      exact .inr (DeepR.head (hr.sto _ _ hl) e)
    · cases h
  · cases h
theorem len_str {x : PV} {n : Nat} (h : lenPV s x = some n) (hs : isStr x = true) {v : Value} (hv : VR ρ own w x v) : ∃ b, v = .string b ∧ n = b.size := by
  unfold isStr at hs
  split at hs
  · rw [VR] at hv
    rw [lenPV] at h
    cases h
    exact ⟨_, hv, rfl⟩
  · cases hs
theorem len_slice {x : PV} {n : Nat} (h : lenPV s x = some n) (hs : ¬ isStr x = true) (hr : RelX ρ own c s a w) {v : Value} (hv : VR ρ own w x v) : ∃ A k, v = .slice A n k := by
  rcases len_of h hr hv with ⟨b, rfl, rfl⟩ | q
  · unfold lenPV at h
    split at h
    · exact absurd rfl hs
    · rw [VR] at hv
      cases hv
    · rw [VR] at hv
      obtain ⟨A, e⟩ := hv
      cases e
    · rw [VR] at hv
      obtain ⟨A, k, e, _⟩ := RdC_list hv
      cases e
    · split at h
      · rename_i hl
        rw [VR] at hv
        replace hv := hv.1
        rcases hr.sto _ _ hl with ⟨⟨A, e1⟩, e2⟩ | ⟨g, k, vs, e, _⟩
        · rw [e1] at hv
          cases hv
        · rw [e] at hv
          cases hv
      · cases h
    · split at h
      · rename_i hl
        rw [VR] at hv
        obtain ⟨us, e⟩ := hv
        obtain ⟨A0, k, e2⟩ := DeepR.head (hr.sto _ _ hl) e
        cases e2
      · cases h
    · cases h
  · exact q
theorem VRs_one {p : PV} {vs : List Value} (h : VRs ρ own w [p] vs) : ∃ v, vs = [v] ∧ VR ρ own w p v := by
  rw [VRs] at h
  obtain ⟨v, r, rfl, h1, h2⟩ := h
  rw [VRs] at h2
  subst h2
  exact ⟨v, rfl, h1⟩
theorem VRs_two {p q : PV} {vs : List Value} (h : VRs ρ own w [p, q] vs) : ∃ v u, vs = [v, u] ∧ VR ρ own w p v ∧ VR ρ own w q u := by
  rw [VRs] at h
  obtain ⟨v, r, rfl, h1, h2⟩ := h
  obtain ⟨u, rfl, h3⟩ := VRs_one h2
  exact ⟨v, u, rfl, h1, h3⟩
theorem bound_some {lo hi : Int} {n : Option PV} {d : Int} {K : Int → Option R} (h : bound lo hi n d K = some r) : ∃ i, K i = some r ∧ ((n = none ∧ i = d) ∨ ∃ k, n = some (.int k i) ∧ lo ≤ i ∧ i ≤ hi) := by
  unfold bound at h
  split at h
  · exact ⟨_, h, .inl ⟨rfl, rfl⟩⟩
  · split at h
    · split at h
      · exact ⟨_, h, .inr ⟨_, rfl, by assumption, by assumption⟩⟩
      · cases h
    · cases h
  · cases h
theorem run_sliceBound_of {k : IntKind} {i : Int} {y : Nat} {code : BoundsCode} (h0 : 0 ≤ i) (h1 : i ≤ (y : Int)) : (Instr.sliceBound (.int k i) y code).run P w = .ok i.toNat w := by
  simp [Instr.sliceBound, asIntOf, h0, h1]
/-- The bounds of a slice's expression, given what the machine found. -/
theorem run_sliceBounds_of {q : Bool} {len cap : Nat} (hlc : len ≤ cap) {lo hi : Option PV} {vl vh : Option Value} (hl : ∀ p, lo = some p → ∃ v, vl = some v ∧ VR ρ own w p v) (hl' : lo = none → vl = none) (hh : ∀ p, hi = some p → ∃ v, vh = some v ∧ VR ρ own w p v) (hh' : hi = none → vh = none)
    {K : Int → Int → Option R} (h : (bound 0 len hi len fun h => bound 0 h lo 0 fun l => K h l) = some r) :
    ∃ x y : Nat, K y x = some r ∧ x ≤ y ∧ y ≤ len ∧ (Instr.sliceBounds q len cap vl vh none).run P w = .ok (x, y, cap) w := by
  obtain ⟨y, h, hy⟩ := bound_some h
  obtain ⟨x, h, hx⟩ := bound_some h
  have fy : ∃ y' : Nat, y = y' ∧ y' ≤ len ∧ ((vh = none ∧ y' = len) ∨ ∃ k, vh = some (.int k (y' : Int))) := by
    rcases hy with ⟨e, rfl⟩ | ⟨k, e, h0, h1⟩
    · exact ⟨len, rfl, Nat.le_refl _, .inl ⟨hh' e, rfl⟩⟩
    · obtain ⟨v, rfl, hv⟩ := hh _ e
      rw [VR] at hv
      subst hv
      exact ⟨y.toNat, by omega, by omega, .inr ⟨k, by rw [Int.toNat_of_nonneg h0]⟩⟩
  obtain ⟨y', rfl, hy1, hy2⟩ := fy
  have fx : ∃ x' : Nat, x = x' ∧ x' ≤ y' ∧ ((vl = none ∧ x' = 0) ∨ ∃ k, vl = some (.int k (x' : Int))) := by
    rcases hx with ⟨e, rfl⟩ | ⟨k, e, h0, h1⟩
    · exact ⟨0, rfl, Nat.zero_le _, .inl ⟨hl' e, rfl⟩⟩
    · obtain ⟨v, rfl, hv⟩ := hl _ e
      rw [VR] at hv
      subst hv
      exact ⟨x.toNat, by omega, by omega, .inr ⟨k, by rw [Int.toNat_of_nonneg h0]⟩⟩
  obtain ⟨x', rfl, hx1, hx2⟩ := fx
  refine ⟨x', y', h, hx1, hy1, ?_⟩
  have b1 : ∀ k code, (Instr.sliceBound (.int k (y' : Int)) cap code).run P w = .ok y' w := fun k code => by
    have := run_sliceBound_of (P := P) (w := w) (k := k) (i := (y' : Int)) (y := cap) (code := code) (by omega) (by omega)
    simpa using this
  have b2 : ∀ k code, (Instr.sliceBound (.int k (x' : Int)) y' code).run P w = .ok x' w := fun k code => by
    have := run_sliceBound_of (P := P) (w := w) (k := k) (i := (x' : Int)) (y := y') (code := code) (by omega) (by omega)
    simpa using this
  rcases hy2 with ⟨rfl, rfl⟩ | ⟨k, rfl⟩ <;> rcases hx2 with ⟨rfl, rfl⟩ | ⟨k', rfl⟩ <;> simp [Instr.sliceBounds, b1, b2]
theorem Sr_take {e : TypeId} {t : Ty} {l : List t.den} {v : Value} (h : VR ρ own w (.row e t l) v) {x y : Nat} (hx : x ≤ y) (hy : y ≤ l.length) : ∃ A k, v = .slice A l.length k ∧ l.length ≤ k ∧
    VR ρ own w (.row e t ((l.take y).drop x)) (.slice (if k = x then A else A.map (·.add (x * t.sz))) (y - x) (k - x)) := by
  rw [VR] at h
  obtain ⟨A, k, rfl, h1, h2, h3, h4⟩ := RdC_list h
  refine ⟨A, k, rfl, h1, ?_⟩
  rw [VR, RdC.eq_def]
  have hlen : ((l.take y).drop x).length = y - x := by simp; omega
  refine ⟨if k = x then A else A.map (·.add (x * t.sz)), k - x, by rw [hlen], by omega, by omega, fun hn => ?_, fun i z hz => ?_⟩
  · split at hn
    · have := h3 hn
      omega
    · have : A = none := by cases A <;> simp_all
      have := h3 this
      omega
  · rw [List.getElem?_drop, List.getElem?_take] at hz
    split at hz
    · rename_i hi
      obtain ⟨b, u, rfl, hb1, hb2, hu, hrd, hc⟩ := h4 _ _ hz
      have hk : ¬ k = x := by omega
      refine ⟨b.add (x * t.sz), u, by rw [if_neg hk]; rfl, by rw [block_add]; exact hb1, by rw [block_add]; exact hb2, hu, hrd, fun j y' hj => ?_⟩
      rw [Addr.add_add]
      have := hc j y' hj
      rw [Nat.add_mul] at this
      rw [← Nat.add_assoc]
      exact this
    · cases hz
end
end Go.Proofs.Ytbaekdcacmoniaa.Pv
