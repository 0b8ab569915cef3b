/- The machine's call is the model's call. -/
import Derived.Test.YtionphbdphbpnaaPv18
namespace Go.Proofs.Ytionphbdphbpnaa.Pv
open Go Go.RowKit

section
variable {R : Type} {r : R} {ρ : Nat → Value} {own : Nat → Prop} {c : Cx} {w : World} {s : St} {a : Act} {P : Program} {S : List (FuncId × FSig)}
def blksOf (ρ : Nat → Value) (ids : List Nat) : List Nat := ids.flatMap fun id => (blkOf (ρ id)).toList
theorem ownIdsL_append : ∀ cs ds : List PV, ownIdsL (cs ++ ds) = ownIdsL cs ++ ownIdsL ds
  | [], ds => by simp [ownIdsL]
  | p :: cs, ds => by rw [List.cons_append, ownIdsL, ownIdsL, ownIdsL_append cs ds, List.append_assoc]
/-- What is read off a result's cells. -/
structure Read (ρ : Nat → Value) (own : Nat → Prop) (w : World) (s : St) (t : Ty) (x : t.den) (cs : List PV) (vs : List Value) (rest : List PV) : Prop where
  ex : ∃ u r ps, vs = u ++ r ∧ cs = ps ++ rest ∧ ResR own w (blksOf ρ (ownIdsL ps)) t x u ∧ VRs ρ own w rest r ∧ ∀ id, id ∈ ownIdsL ps → ∃ e t l, look id s.sto = some (.row e t l)
theorem unres_sound (hr : RelX ρ own c s a w) : ∀ {t : Ty} {cs : List PV} {vs : List Value} {x : t.den} {rest : List PV}, unres s.sto t cs = some (x, rest) → VRs ρ own w cs vs → Read ρ own w s t x cs vs rest
  | .int k, cs, vs, x, rest, h, hv => by
    rw [unres] at h
    have e := unInt_sound h
    subst e
    rw [VRs] at hv
    obtain ⟨v, r, rfl, h1, h2⟩ := hv
    rw [VR] at h1
    exact ⟨[v], r, [.int k x], rfl, rfl, by rw [ResR.eq_def]; exact ⟨rfl, by rw [h1]⟩, h2, fun id hi => by simp [ownIdsL, ownIds] at hi⟩
  | .bool, cs, vs, x, rest, h, hv => by
    rw [unres] at h
    have e := unBool_sound h
    subst e
    rw [VRs] at hv
    obtain ⟨v, r, rfl, h1, h2⟩ := hv
    rw [VR] at h1
    exact ⟨[v], r, [.bool x], rfl, rfl, by rw [ResR.eq_def]; exact ⟨rfl, by rw [h1]⟩, h2, fun id hi => by simp [ownIdsL, ownIds] at hi⟩
  | .str, cs, vs, x, rest, h, hv => by
    rw [unres] at h
    have e := unStr_sound h
    subst e
    rw [VRs] at hv
    obtain ⟨v, r, rfl, h1, h2⟩ := hv
    rw [VR] at h1
    exact ⟨[v], r, [.str x], rfl, rfl, by rw [ResR.eq_def]; exact ⟨rfl, by rw [h1]⟩, h2, fun id hi => by simp [ownIdsL, ownIds] at hi⟩
  | .list false e t, cs, vs, x, rest, h, hv => by
    rw [unres] at h
    have hno : ∃ p, cs = p :: rest ∧ ownIds p = [] := by
      unfold unRow at h
      split at h
      · cases h; exact ⟨_, rfl, rfl⟩
      · cases h; exact ⟨_, rfl, rfl⟩
      · split at h
        · cases h; exact ⟨_, rfl, rfl⟩
        · cases h
      · cases h
    obtain ⟨p, rfl, hp⟩ := unRow_sound (ρ := ρ) (own := own) (w := w) (o := false) h
    obtain ⟨p', e', hp'⟩ := hno
    cases e'
    rw [VRs] at hv
    obtain ⟨v, r, rfl, h1, h2⟩ := hv
    have e0 : ownIdsL [p] = [] := by simp [ownIdsL, hp']
    exact ⟨[v], r, [p], rfl, rfl, by rw [ResR.eq_def, e0]; exact ⟨rfl, hp v h1⟩, h2, fun id hi => by rw [e0] at hi; cases hi⟩
  | .list true e t, cs, vs, x, rest, h, hv => by
    rw [unres] at h
    unfold unOwn at h
    split at h
    · cases h
      rw [VRs] at hv
      obtain ⟨v, r, rfl, h1, h2⟩ := hv
      rw [VR] at h1
      subst h1
      exact ⟨[_], r, [.nils], rfl, rfl, by rw [ResR.eq_def]; exact ⟨_, rfl, .inl ⟨⟨none, rfl⟩, rfl⟩, rfl⟩, h2, fun id hi => by simp [ownIdsL, ownIds] at hi⟩
    · rename_i id rs
      split at h
      · rename_i e' t' l hl
        split at h
        · rename_i l' hs
          cases h
          obtain ⟨rfl, rfl, q⟩ := sameRow_eq hs
          have := eq_of_heq q
          subst this
          rw [VRs] at hv
          obtain ⟨v, r, rfl, h1, h2⟩ := hv
          rw [VR] at h1
          subst h1
          exact ⟨[_], r, [.own id], rfl, rfl, by rw [ResR.eq_def]; exact ⟨_, rfl, (hr.sto id _ hl).sub rfl (fun _ _ q => q), by simp [ownIdsL, ownIds, blksOf]⟩, h2, fun i hi => by simp [ownIdsL, ownIds] at hi; subst hi; exact ⟨_, _, _, hl⟩⟩
        · cases h
      · cases h
    · cases h
  | .prod t u, cs, vs, x, rest, h, hv => by
    rw [unres] at h
    split at h
    · rename_i y l' hy
      split at h
      · rename_i z l'' hz
        cases h
        obtain ⟨u0, r0, p0, rfl, rfl, h1, h2, h3⟩ := (unres_sound hr hy hv).ex
        obtain ⟨u1, r1, p1, rfl, rfl, h4, h5, h6⟩ := (unres_sound hr hz h2).ex
        refine ⟨u0 ++ u1, r1, p0 ++ p1, by simp, by simp, ?_, h5, fun id hi => ?_⟩
        · rw [ResR.eq_def]
          refine ⟨_, _, u0, u1, ?_, rfl, h1, h4⟩
          rw [ownIdsL_append, blksOf, List.flatMap_append]
          rfl
        · rw [ownIdsL_append] at hi
          rcases List.mem_append.1 hi with q | q
          · exact h3 id q
          · exact h6 id q
      · cases h
    · cases h
  | .unit, cs, vs, x, rest, h, hv => by
    rw [unres] at h
    cases h
    exact ⟨[], vs, [], rfl, rfl, by rw [ResR.eq_def]; exact ⟨rfl, rfl⟩, hv, fun id hi => by simp [ownIdsL] at hi⟩
theorem blks_nodup (hr : RelX ρ own c s a w) : ∀ {ids : List Nat}, ids.Nodup → (∀ id, id ∈ ids → ∃ e t l, look id s.sto = some (.row e t l)) → (blksOf ρ ids).Nodup ∧ ∀ g, g ∈ blksOf ρ ids → own g ∧ c.w0.heap.size ≤ g
  | [], _, _ => ⟨List.nodup_nil, fun g h => by simp [blksOf] at h⟩
  | id :: ids, hn, hl => by
    rw [List.nodup_cons] at hn
    obtain ⟨h1, h2⟩ := blks_nodup hr hn.2 (fun i hi => hl i (List.mem_cons_of_mem _ hi))
    obtain ⟨e, t, l, hlk⟩ := hl id List.mem_cons_self
    have hcons : blksOf ρ (id :: ids) = (blkOf (ρ id)).toList ++ blksOf ρ ids := by simp [blksOf]
    have hin : ∀ g, g ∈ blksOf ρ ids → ∃ i, i ∈ ids ∧ blkOf (ρ i) = some g := by
      intro g hg
      simp only [blksOf, List.mem_flatMap, Option.mem_toList] at hg
      obtain ⟨i, hi, hg⟩ := hg
      exact ⟨i, hi, hg⟩
    rw [hcons]
    cases hb : blkOf (ρ id) with
    | none => exact ⟨by simpa using h1, by simpa using h2⟩
    | some g =>
      have how := hr.owned id _ g hlk hb
      have hlow : c.w0.heap.size ≤ g := by
        rcases how.2 with q | ⟨_, q⟩
        · exact q
        · cases q
      refine ⟨?_, fun q hq => ?_⟩
      · show (g :: blksOf ρ ids).Nodup
        refine List.nodup_cons.2 ⟨fun hg => ?_, h1⟩
        obtain ⟨i, hi, hig⟩ := hin g hg
        obtain ⟨e', t', l', hlk'⟩ := hl i (List.mem_cons_of_mem _ hi)
        have := hr.apart id i _ _ g hlk hlk' hb hig
        subst this
        exact hn.1 hi
      · rcases List.mem_cons.1 (show q ∈ g :: blksOf ρ ids from hq) with rfl | k
        · exact ⟨how.1, hlow⟩
        · exact h2 q k
/-- The end of a body. -/
theorem finT_sound (hr : RelX ρ own c s a w) {fn : Func} {t : Ty} {x : t.den} (h : finT P fn t s = some x) : ∃ own' gs us, (results fn a.tmps).run P w = .ok (wrapV us) w ∧ (∀ g, c.F g → own' g) ∧ (∀ g, g ∈ gs → own' g ∧ c.w0.heap.size ≤ g ∧ g < w.heap.size) ∧ gs.Nodup ∧ ResR own' w gs t x (us.flatMap (·.cells.toList)) ∧ Shapes P fn.resultTypes.toList us := by
  unfold finT at h
  split at h
  · cases h
  · rename_i vs hvs
    obtain ⟨own', hr', _⟩ := hr.cools (coldIds t (vs.flatMap cellsOfPV))
    split at h
    · cases h
    · rename_i vs' hvs'
      split at h
      · rename_i hc
        rw [Bool.and_eq_true] at hc
        obtain ⟨us, h1, h2⟩ := results_sound hr' hvs'
        obtain ⟨h3, h4⟩ := Shapes.of hr' hc.2 h2
        split at h
        · rename_i y hy
          cases h
          obtain ⟨u, r', ps, e1, e2, h5, h6, h7⟩ := (unres_sound hr' hy h4).ex
          rw [VRs] at h6
          subst h6
          rw [List.append_nil] at e1 e2
          have hnd := nodupN_sound hc.1
          rw [e2] at hnd
          obtain ⟨h8, h9⟩ := blks_nodup hr' hnd h7
          exact ⟨own', _, us, h1, hr'.base, fun g hg => ⟨(h9 g hg).1, (h9 g hg).2, hr'.lo g (h9 g hg).1⟩, h8, by rw [e1]; exact h5, h3⟩
        · cases h
      · cases h
end
end Go.Proofs.Ytionphbdphbpnaa.Pv
