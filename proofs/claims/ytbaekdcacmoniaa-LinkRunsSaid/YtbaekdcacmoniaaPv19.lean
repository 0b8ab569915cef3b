/- The machine's call is the model's call. -/
import Derived.Test.YtbaekdcacmoniaaPv18
namespace Go.Proofs.Ytbaekdcacmoniaa.Pv
open Go Go.RowKit

section
variable {R : Type} {r : R} {ρ : Nat → Value} {own : Nat → Prop} {W0 : World} {c : Cx W0} {w : World} {s : St} {a : Act} {P : Program} {S : List (FuncId × FSig)}
/-- The end of a body. -/
theorem finT_sound (hr : RelX ρ own c s a w) {fn : Func} {g : FSig} {x : g.res.den} (h : finT P fn g s = some x) : ∃ own' gs us us', (results fn a.tmps).run P w = .ok (wrapV us) w ∧ (∀ q, c.F q → own' q) ∧ (∀ q, q ∈ gs → own' q ∧ (c.w0.heap.size ≤ q ∨ c.L q) ∧ q < w.heap.size) ∧ gs.Nodup ∧ ResR own' w gs g.res x (us.flatMap (·.cells.toList) ++ us') ∧ Shapes P fn.resultTypes.toList us ∧
    (lentAt g.par = none → us' = []) ∧ ∀ i b t, lentAt g.par = some (i, b, t) → ∃ q arr, (∀ v, c.pin = some (i, v) → v = lentV b (.pointer (some ⟨q, 0, none⟩))) ∧ w.heap[q]? = some (.cells arr (boxT b) (0, 0)) ∧ arr.toList = us' ∧ arr.size = t.sz ∧ own' q ∧ q ∉ gs := by
  unfold finT at h
  split at h
  case h_2 => cases h
  rename_i vs ls hvs hls
  obtain ⟨own', hr', _⟩ := hr.cools (coldIds g.res (vs.flatMap cellsOfPV ++ ls))
  generalize s.cools (coldIds g.res (vs.flatMap cellsOfPV ++ ls)) = s' at h hr'
  split at h
  case h_2 => cases h
  rename_i vs' ls' hvs' hls'
  split at h
  case isFalse => cases h
  rename_i hc
  rw [Bool.and_eq_true] at hc
  obtain ⟨us, h1, h2⟩ := results_sound hr' hvs'
  obtain ⟨h3, h4⟩ := Shapes.of hr' hc.2 h2
  split at h
  case h_2 => cases h
  rename_i y hy
  cases h
  have hlent : ∃ us', VRs ρ own' w ls' us' ∧ (lentAt g.par = none → us' = []) ∧ ∀ i b t, lentAt g.par = some (i, b, t) → ∃ q arr id t0, (∀ v, c.pin = some (i, v) → v = lentV b (.pointer (some ⟨q, 0, none⟩))) ∧ w.heap[q]? = some (.cells arr (boxT b) (0, 0)) ∧ arr.toList = us' ∧ arr.size = t.sz ∧ own' q ∧ q ∈ blks (ρ id) ∧ look id s'.sto = some (.box t0 ls') := by
    unfold lentCells at hls'
    split at hls'
    · rename_i hn
      cases hls'
      exact ⟨[], by rw [VRs], fun _ => rfl, fun i b t q => by rw [hn] at q; cases q⟩
    · rename_i i b t hn
      split at hls'
      case h_2 => cases hls'
      rename_i id hid
      split at hls'
      case h_2 => cases hls'
      rename_i b' cs hl
      split at hls'
      case isFalse => cases hls'
      rename_i hq
      cases hls'
      rw [Bool.and_eq_true, Bool.and_eq_true] at hq
      obtain ⟨⟨q1, q2⟩, q3⟩ := hq
      have e1 : id = pinL i := by simpa using q1
      have e2 : b' = boxT b := by simpa using q2
      have e3 : ls'.length = t.sz := by simpa using q3
      subst e2
      obtain ⟨q, arr, e, hh, hv⟩ := hr'.sto id _ hl
      have hblk : q ∈ blks (ρ id) := in_blk (by rw [e]; rfl)
      refine ⟨arr.toList, hv, (fun k => by rw [hn] at k; cases k), fun i2 b2 t2 k => ?_⟩
      rw [hn] at k
      cases k
      refine ⟨q, arr, id, _, fun v hp => ?_, hh, rfl, (by have := hv.len; simp at this; omega), (hr'.owned id _ q hl hblk).1, hblk, hl⟩
      have hpin := hr'.pin _ v hp (unLent_pin (by rw [hid, e1]))
      obtain ⟨q', k1, k2⟩ := unLent_sound hid (hr'.env i)
      rw [e] at k1
      cases k1
      rw [← hpin, k2]
  obtain ⟨us', v1, v2, v3⟩ := hlent
  obtain ⟨u, r', ps, e1, e2, h5, h6, h7⟩ := (unres_sound hr' hy (h4.append v1)).ex
  rw [VRs] at h6
  subst h6
  rw [List.append_nil] at e1 e2
  obtain ⟨hnd, hgs⟩ := nodupO_sound hc.1
  rw [e2] at hnd
  obtain ⟨h8, h9⟩ := blks_nodup hr' hnd (by first | exact hgs | (subst_vars; exact hgs) | (simpa using hgs)) h7
  refine ⟨own', _, us, us', h1, hr'.base, fun g hg => ⟨(h9 g hg).1, (h9 g hg).2, hr'.lo g (h9 g hg).1⟩, h8, by rw [e1]; exact h5, h3, v2, fun i b t hla => ?_⟩
  obtain ⟨q, arr, id, t0, k1, k2, k3, k4, k5, k6, k7⟩ := v3 i b t hla
  refine ⟨q, arr, k1, k2, k3, k4, k5, fun hm => ?_⟩
  simp only [blksOf, List.mem_flatMap] at hm
  obtain ⟨j, hj, hq⟩ := hm
  obtain ⟨bk, hlk, hbk⟩ := (h7 j hj).some
  have := hr'.apart j id _ _ q hlk k7 hq k6
  subst this
  rw [k7] at hlk
  cases hlk
  cases hbk
end
end Go.Proofs.Ytbaekdcacmoniaa.Pv
