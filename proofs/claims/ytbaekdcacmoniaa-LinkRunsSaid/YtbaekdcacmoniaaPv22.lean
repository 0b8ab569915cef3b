/- The ways of regions and of runs; more rounds answer alike; what a call answers from some number of rounds on, and its equation. -/
import Derived.Test.YtbaekdcacmoniaaPv21
namespace Go.Proofs.Ytbaekdcacmoniaa.Pv
open Go Go.RowKit

section
variable {R : Type} {r : R} {P : Program} {S : List (FuncId × FSig)} {callT : CallT}
theorem evOps_way {ops : List Oper} : ∀ (l : List Oper) {s : St} {K : St → Option R}, evOps P S callT ops l s K = some r →
    ∃ cs s', CallsOk callT cs ∧ K s' = some r ∧ ∀ (callT' : CallT) (K' : St → Option R), CallsOk callT' cs → evOps P S callT' ops l s K' = K' s'
  | [], s, K, h => ⟨[], s, .nil, h, fun _ _ _ => rfl⟩
  | o :: l, s, K, h => by
    rw [evOps] at h
    split at h
    · rename_i hg
      obtain ⟨cs, p, s', h1, h2, h3⟩ := evOp_way h
      obtain ⟨ds, s'', k1, k2, k3⟩ := evOps_way l h2
      exact ⟨cs ++ ds, s'', CallsOk.append.2 ⟨h1, k1⟩, k2, fun callT' K' hc => by rw [evOps, hg]; exact (h3 callT' _ (CallsOk.append.1 hc).1).trans (k3 callT' K' (CallsOk.append.1 hc).2)⟩
    · rename_i j want hg
      split at h
      · cases h
      · rename_i t ht
        rcases guardV_some h with ⟨b, eb, h⟩ | ⟨ev, h⟩
        case inr =>
          obtain ⟨ds, s'', k1, k2, k3⟩ := evOps_way l h
          exact ⟨ds, s'', k1, k2, fun callT' K' hc => by
            rw [evOps, hg]
            simp only [ht, ev, guardV]
            exact k3 callT' K' hc⟩
        split at h
        · rename_i hb
          obtain ⟨cs, p, s', h1, h2, h3⟩ := evOp_way h
          obtain ⟨ds, s'', k1, k2, k3⟩ := evOps_way l h2
          exact ⟨cs ++ ds, s'', CallsOk.append.2 ⟨h1, k1⟩, k2, fun callT' K' hc => by
            rw [evOps, hg]
            simp only [ht, eb, guardV, if_pos hb]
            exact (h3 callT' _ (CallsOk.append.1 hc).1).trans (k3 callT' K' (CallsOk.append.1 hc).2)⟩
        · rename_i hb
          obtain ⟨ds, s'', k1, k2, k3⟩ := evOps_way l h
          exact ⟨ds, s'', k1, k2, fun callT' K' hc => by
            rw [evOps, hg]
            simp only [ht, eb, guardV, if_neg hb]
            exact k3 callT' K' hc⟩
theorem callD_way {s : St} {f : FuncId} {g : FSig} {fn : Func} {d : Nat} {args : List PV} {K : PV → List (Nat × Blk) → Option R} (q : callD P callT f g fn d s args K = some r) :
    ∃ cs p nb, CallsOk callT cs ∧ K p nb = some r ∧ ∀ (callT' : CallT) (K' : PV → List (Nat × Blk) → Option R), CallsOk callT' cs → callD P callT' f g fn d s args K' = K' p nb := by
  unfold callD at q
  split at q
  · cases q
  · rename_i hl
    split at q
    · rename_i hok
      rw [Option.bind_eq_some_iff] at q
      obtain ⟨x, hx, q⟩ := q
      simp only at q
      split at q
      · rename_i vs hvs
        obtain ⟨ds, hds, hgo⟩ := callN_way hx
        refine ⟨ds, _, _, hds, q, fun callT' K' hc => ?_⟩
        · have := hgo callT' hc
          unfold callD
          rw [if_neg hl, if_pos hok, this, Option.bind_some]
          simp only [hvs]
      · cases q
    · cases q
theorem evOpD0_way {s : St} {o : Oper} {K : PV → List (Nat × Blk) → Option R} (q : evOpD0 P S callT s o K = some r) :
    ∃ cs p nb, CallsOk callT cs ∧ K p nb = some r ∧ ∀ (callT' : CallT) (K' : PV → List (Nat × Blk) → Option R), CallsOk callT' cs → evOpD0 P S callT' s o K' = K' p nb := by
  have heads_way : evOp P S callT s o (heads K) = some r → ∃ cs p nb, CallsOk callT cs ∧ K p nb = some r ∧ ∀ (callT' : CallT) (K' : PV → List (Nat × Blk) → Option R), CallsOk callT' cs → evOp P S callT' s o (heads K') = K' p nb := by
    intro h
    obtain ⟨cs, p, s', h1, h2, h3⟩ := evOp_way h
    unfold heads at h2
    split at h2
    · rename_i x l e
      exact ⟨cs, p, [x], h1, h2, fun callT' K' hc => (h3 callT' _ hc).trans (by simp only [heads, e])⟩
    · cases h2
  have pure_way : (evOp P S callT s o fun p _ => K p []) = some r → ∃ cs p nb, CallsOk callT cs ∧ K p nb = some r ∧ ∀ (callT' : CallT) (K' : PV → List (Nat × Blk) → Option R), CallsOk callT' cs → (evOp P S callT' s o fun p _ => K' p []) = K' p nb := by
    intro h
    obtain ⟨cs, p, s', h1, h2, h3⟩ := evOp_way h
    exact ⟨cs, p, [], h1, h2, fun callT' K' hc => h3 callT' _ hc⟩
  unfold evOpD0 at q
  split at q
  case isFalse => cases q
  rename_i hsol
  split at q
  case h_19 =>
    rename_i ho
    split at q
    · cases q
    · rename_i hno
      obtain ⟨cs, p, nb, h1, h2, h3⟩ := pure_way q
      exact ⟨cs, p, nb, h1, h2, fun callT' K' hc => by
        unfold evOpD0
        rw [if_pos hsol]
        simp only [ho]
        exact h3 callT' K' hc⟩
  case h_23 =>
    rename_i ho
    split at q
    · rename_i e
      obtain ⟨cs, p, nb, h1, h2, h3⟩ := heads_way q
      exact ⟨cs, p, nb, h1, h2, fun callT' K' hc => by
        unfold evOpD0
        rw [if_pos hsol]
        simp only [ho, e]
        exact h3 callT' K' hc⟩
    · cases q
  case h_24 =>
    rename_i cl ho
    split at q
    · rename_i hb
      split at q
      · rename_i e
        obtain ⟨cs, p, nb, h1, h2, h3⟩ := heads_way q
        exact ⟨cs, p, nb, h1, h2, fun callT' K' hc => by
          unfold evOpD0
          rw [if_pos hsol]
          simp only [ho, hb, e]
          exact h3 callT' K' hc⟩
      · rename_i e
        obtain ⟨cs, p, nb, h1, h2, h3⟩ := heads_way q
        exact ⟨cs, p, nb, h1, h2, fun callT' K' hc => by
          unfold evOpD0
          rw [if_pos hsol]
          simp only [ho, hb, e]
          exact h3 callT' K' hc⟩
      · cases q
    · rename_i b hnot hb
      obtain ⟨cs, p, nb, h1, h2, h3⟩ := pure_way q
      exact ⟨cs, p, nb, h1, h2, fun callT' K' hc => by
        unfold evOpD0
        rw [if_pos hsol]
        simp only [ho, hb]
        exact h3 callT' K' hc⟩
    · rename_i x hx
      split at q
      · rename_i f caps ef
        split at q
        case isFalse => cases q
        rename_i hblt
        split at q
        · rename_i fn hnat
          obtain ⟨cs, p, nb, h1, h2, h3⟩ := pure_way q
          exact ⟨cs, p, nb, h1, h2, fun callT' K' hc => by
            unfold evOpD0
            rw [if_pos hsol]
            simp only [ho, hx, ef, if_pos hblt, hnat]
            exact h3 callT' K' hc⟩
        rename_i hnat
        split at q
        · rename_i k ts hlib
          split at q
          case isFalse => cases q
          rename_i hpk
          obtain ⟨cs, p, nb, h1, h2, h3⟩ := pure_way q
          exact ⟨cs, p, nb, h1, h2, fun callT' K' hc => by
            unfold evOpD0
            rw [if_pos hsol]
            simp only [ho, hx, ef, if_pos hblt, hnat, hlib, if_pos hpk]
            exact h3 callT' K' hc⟩
        rename_i hnl
        split at q
        · rename_i g fn hg hfn
          split at q
          · cases q
          rename_i hla
          obtain ⟨cs, p, nb, h1, h2, h3⟩ := callD_way q
          exact ⟨cs, p, nb, h1, h2, fun callT' K' hc => by
            unfold evOpD0
            rw [if_pos hsol]
            simp only [ho, hx, ef, if_pos hblt, hnat, hnl, hg, hfn, hla]
            exact h3 callT' K' hc⟩
        · cases q
      · cases q
    · cases q
  case h_25 => cases q
  case h_20 | h_21 | h_22 =>
    rename_i ho
    obtain ⟨cs, p, nb, h1, h2, h3⟩ := heads_way q
    exact ⟨cs, p, nb, h1, h2, fun callT' K' hc => by
      unfold evOpD0
      rw [if_pos hsol]
      simp only [ho]
      exact h3 callT' K' hc⟩
  all_goals
    rename_i ho
    obtain ⟨cs, p, nb, h1, h2, h3⟩ := pure_way q
    exact ⟨cs, p, nb, h1, h2, fun callT' K' hc => by
      unfold evOpD0
      rw [if_pos hsol]
      simp only [ho]
      exact h3 callT' K' hc⟩
theorem evOpD_way {s : St} {o : Oper} {K : PV → List (Nat × Blk) → List Nat → Option R} (q : evOpD P S callT s o K = some r) :
    ∃ cs p nb us, CallsOk callT cs ∧ K p nb us = some r ∧ ∀ (callT' : CallT) (K' : PV → List (Nat × Blk) → List Nat → Option R), CallsOk callT' cs → evOpD P S callT' s o K' = K' p nb us := by
  unfold evOpD at q
  split at q
  · rename_i id d hs hd
    split at q
    case isFalse => cases q
    rename_i hsol
    obtain ⟨cs, p, s', h1, h2, h3⟩ := evOp_way q
    unfold heads2 at h2
    split at h2
    · rename_i b b2 e1 e2
      exact ⟨cs, p, _, [id], h1, h2, fun callT' K' hc => by
        unfold evOpD
        simp only [hs, hd, if_pos hsol]
        refine (h3 callT' _ hc).trans ?_
        simp only [heads2, e1, e2]⟩
    · cases h2
  · rename_i hno
    split at q
    · rename_i id d hs hd
      split at q
      case isFalse => cases q
      rename_i hsol
      obtain ⟨cs, p, s', h1, h2, h3⟩ := evOp_way q
      unfold heads1 at h2
      split at h2
      · rename_i b e1
        refine ⟨cs, p, _, [id], h1, h2, fun callT' K' hc => ?_⟩
        unfold evOpD
        split
        · rename_i id' d' hs' hd'
          exact (hno id' d' hs' hd').elim
        · simp only [hs, hd, if_pos hsol]
          refine (h3 callT' _ hc).trans ?_
          simp only [heads1, e1]
      · cases h2
    · rename_i hno2
      obtain ⟨cs, p, nb, h1, h2, h3⟩ := evOpD0_way q
      refine ⟨cs, p, nb, [], h1, h2, fun callT' K' hc => ?_⟩
      unfold evOpD
      split
      · rename_i id d hs hd
        exact (hno id d hs hd).elim
      · split
        · rename_i id d hs hd
          exact (hno2 id d hs hd).elim
        · exact h3 callT' _ hc
theorem gsplit_way {t : Nat} {want : Bool} {s : St} {recs : List Rec} {K : St → List Rec → Option R} (h : gsplit t want s recs K = some r) : K s recs = some r ∧ ∀ K' : St → List Rec → Option R, gsplit t want s recs K' = K' s recs := by
  refine ⟨gsplit_some h, fun K' => ?_⟩
  unfold gsplit at h ⊢
  split at h
  · rename_i v hv
    rcases guardV_some h with ⟨b, eb, h⟩ | ⟨ev, h⟩
    case inr =>
      subst ev
      rfl
    subst eb
    simp only [guardV]
    split
    · rename_i e
      subst e
      rw [refine_id hv]
    · rename_i e
      have : b = !want := by cases b <;> cases want <;> simp_all
      rw [← this, refine_id hv]
  · rcases guardV_some h with ⟨b, e, h⟩ | ⟨ev, h⟩
    case inr => simp only [ev, guardV]
    have hid : s.puto (some t) (.bool b) = s := by
      show (⟨put s.env t (.bool b), s.sto⟩ : St) = s
      rw [← e, put_id]
    simp only [e, guardV]
    split
    · rename_i e
      subst e
      rw [hid]
    · rename_i e
      have : b = !want := by cases b <;> cases want <;> simp_all
      rw [← this, hid]
theorem evStD_way {s : St} {o : Oper} {tt : TypeId} {a x : Operand} {K : List (Nat × Blk) → Option R} (h : evStD P s o tt a x K = some r) :
    ∃ nb, K nb = some r ∧ ∀ {R' : Type} (K' : List (Nat × Blk) → Option R'), evStD P s o tt a x K' = K' nb := by
  unfold evStD at h
  split at h
  case isFalse => cases h
  rename_i hsol
  split at h
  case h_3 => cases h
  · rename_i id off ha
    unfold evStore at h
    split at h
    · cases h
    rename_i n hn
    split at h
    case isFalse => cases h
    rename_i hc
    simp only at h
    split at h
    case h_2 => cases h
    rename_i t0 cs hl
    split at h
    case isFalse => cases h
    rename_i hb
    split at h
    case h_2 => cases h
    rename_i b hlk
    refine ⟨_, h, fun K' => ?_⟩
    simp only [evStD, if_pos hsol, ha, evStore, hn, if_pos hc, hl, if_pos hb, hlk]
  · rename_i id z i off ha
    split at h
    case h_2 => cases h
    rename_i hids
    unfold evStore at h
    split at h
    · cases h
    rename_i n hn
    split at h
    case isFalse => cases h
    rename_i hc
    simp only at h
    split at h
    case h_2 => cases h
    rename_i e τ l hl
    split at h
    case isFalse => cases h
    rename_i hz
    split at h
    case h_2 => cases h
    rename_i y hy
    split at h
    case h_2 => cases h
    rename_i b hlk
    refine ⟨_, h, fun K' => ?_⟩
    simp only [evStD, if_pos hsol, ha, hids, evStore, hn, if_pos hc, hl, if_pos hz, hy, hlk]
theorem evSeg_way {ops : List Oper} {ms : List Nat} {sl : List (Nat × Nat)} : ∀ (l : List Nat) {s : St} {recs : List Rec} {K : St → List Rec → Option R}, evSeg P S callT ops ms sl l s recs K = some r →
    ∃ cs s' recs', CallsOk callT cs ∧ K s' recs' = some r ∧ ∀ (callT' : CallT) (K' : St → List Rec → Option R), CallsOk callT' cs → evSeg P S callT' ops ms sl l s recs K' = K' s' recs'
  | [], s, recs, K, h => ⟨[], s, recs, .nil, h, fun _ _ _ => rfl⟩
  | i :: l, s, recs, K, h => by
    rw [evSeg] at h
    split at h
    · cases h
    · rename_i o ho
      split at h
      · rename_i hd
        split at h
        case h_2 => cases h
        rename_i tt aa xx hg hop
        obtain ⟨nb, h, e⟩ := evStD_way h
        obtain ⟨ds, s'', recs'', k1, k2, k3⟩ := evSeg_way l h
        exact ⟨ds, s'', recs'', k1, k2, fun callT' K' hc => by
          rw [evSeg, ho]
          simp only [hd, hg, hop, e]
          exact k3 callT' K' hc⟩
      · rename_i d hd
        split at h
        · rename_i hg
          obtain ⟨cs, p, nb, us, h1, h2, h3⟩ := evOpD_way h
          obtain ⟨ds, s'', recs'', k1, k2, k3⟩ := evSeg_way l h2
          exact ⟨cs ++ ds, s'', recs'', CallsOk.append.2 ⟨h1, k1⟩, k2, fun callT' K' hc => by
            rw [evSeg, ho]
            simp only [hd, hg]
            exact (h3 callT' _ (CallsOk.append.1 hc).1).trans (k3 callT' K' (CallsOk.append.1 hc).2)⟩
        · rename_i j want hg
          split at h
          · cases h
          · rename_i t ht
            obtain ⟨h0, hsplit⟩ := gsplit_way h
            rcases guardV_some h0 with ⟨b, eb, h⟩ | ⟨ev, h⟩
            case inr =>
              obtain ⟨ds, s'', recs'', k1, k2, k3⟩ := evSeg_way l h
              exact ⟨ds, s'', recs'', k1, k2, fun callT' K' hc => by
                rw [evSeg, ho]
                simp only [hd, hg, ht, hsplit, ev, guardV]
                exact k3 callT' K' hc⟩
            split at h
            · rename_i hb
              obtain ⟨cs, p, nb, us, h1, h2, h3⟩ := evOpD_way h
              obtain ⟨ds, s'', recs'', k1, k2, k3⟩ := evSeg_way l h2
              exact ⟨cs ++ ds, s'', recs'', CallsOk.append.2 ⟨h1, k1⟩, k2, fun callT' K' hc => by
                rw [evSeg, ho]
                simp only [hd, hg, ht, hsplit, eb, guardV, if_pos hb]
                exact (h3 callT' _ (CallsOk.append.1 hc).1).trans (k3 callT' K' (CallsOk.append.1 hc).2)⟩
            · rename_i hb
              obtain ⟨ds, s'', recs'', k1, k2, k3⟩ := evSeg_way l h
              exact ⟨ds, s'', recs'', k1, k2, fun callT' K' hc => by
                rw [evSeg, ho]
                simp only [hd, hg, ht, hsplit, eb, guardV, if_neg hb]
                exact k3 callT' K' hc⟩
theorem evParts_way {ops : List Oper} {ms : List Nat} : ∀ (segs : List (List Nat)) {s : St} {K : St → Option R}, evParts P S callT ops ms segs s K = some r →
    ∃ cs s', CallsOk callT cs ∧ K s' = some r ∧ ∀ (callT' : CallT) (K' : St → Option R), CallsOk callT' cs → evParts P S callT' ops ms segs s K' = K' s'
  | [], s, K, h => ⟨[], s, .nil, h, fun _ _ _ => rfl⟩
  | [] :: l, s, K, h => by
    rw [evParts] at h
    obtain ⟨cs, s', h1, h2, h3⟩ := evParts_way l h
    exact ⟨cs, s', h1, h2, fun callT' K' hc => by rw [evParts]; exact h3 callT' K' hc⟩
  | [i] :: l, s, K, h => by
    rw [evParts] at h
    split at h
    · cases h
    · rename_i o ho
      obtain ⟨cs, s', h1, h2, h3⟩ := evOps_way [o] h
      obtain ⟨ds, s'', k1, k2, k3⟩ := evParts_way l h2
      exact ⟨cs ++ ds, s'', CallsOk.append.2 ⟨h1, k1⟩, k2, fun callT' K' hc => by
        rw [evParts, ho]
        exact (h3 callT' _ (CallsOk.append.1 hc).1).trans (k3 callT' K' (CallsOk.append.1 hc).2)⟩
  | (i :: j :: seg) :: l, s, K, h => by
    rw [evParts] at h
    obtain ⟨cs, s', recs', h1, h2, h3⟩ := evSeg_way _ h
    split at h2
    · rename_i hok
      obtain ⟨ds, s'', k1, k2, k3⟩ := evParts_way l h2
      exact ⟨cs ++ ds, s'', CallsOk.append.2 ⟨h1, k1⟩, k2, fun callT' K' hc => by
        rw [evParts, h3 callT' _ (CallsOk.append.1 hc).1, if_pos hok]
        exact k3 callT' K' (CallsOk.append.1 hc).2⟩
    · cases h2
theorem evReg_way {draw : Bool} {ops : Array Oper} {s : St} {K : St → Option R} (h : evReg P S callT draw ops s K = some r) :
    ∃ cs s', CallsOk callT cs ∧ K s' = some r ∧ ∀ (callT' : CallT) (K' : St → Option R), CallsOk callT' cs → evReg P S callT' draw ops s K' = K' s' := by
  unfold evReg at h
  split at h
  · rename_i hd
    split at h
    · rename_i hb
      obtain ⟨cs, s', h1, h2, h3⟩ := evParts_way _ h
      exact ⟨cs, s', h1, h2, fun callT' K' hc => by unfold evReg; rw [if_pos hd, if_pos hb]; exact h3 callT' K' hc⟩
    · cases h
  · rename_i hd
    obtain ⟨cs, s', h1, h2, h3⟩ := evOps_way _ h
    exact ⟨cs, s', h1, h2, fun callT' K' hc => by unfold evReg; rw [if_neg hd]; exact h3 callT' K' hc⟩
/-- Calls in place whose way is known. -/
def InlWay (r : R) (I : CallT → InlT R) : Prop := ∀ (callT : CallT) (f : FuncId) (s : St) (args : List PV) (K : PV → St → Option R), I callT f s args K = some r → Way callT r K (fun callT' K' => I callT' f s args K')
theorem evOpsI_way {I : CallT → InlT R} (hI : InlWay r I) {ops : List Oper} : ∀ (l : List Oper) {s : St} {K : St → Option R}, evOpsI P S callT (I callT) ops l s K = some r →
    ∃ cs s', CallsOk callT cs ∧ K s' = some r ∧ ∀ (callT' : CallT) (K' : St → Option R), CallsOk callT' cs → evOpsI P S callT' (I callT') ops l s K' = K' s'
  | [], s, K, h => ⟨[], s, .nil, h, fun _ _ _ => rfl⟩
  | o :: l, s, K, h => by
    rw [evOpsI] at h
    split at h
    · rename_i f as hf
      obtain ⟨cs, p, s', h1, h2, h3⟩ := hI _ _ _ _ _ h
      obtain ⟨ds, s'', k1, k2, k3⟩ := evOpsI_way hI l h2
      exact ⟨cs ++ ds, s'', CallsOk.append.2 ⟨h1, k1⟩, k2, fun callT' K' hc => by
        rw [evOpsI, hf]
        exact (h3 callT' _ (CallsOk.append.1 hc).1).trans (k3 callT' K' (CallsOk.append.1 hc).2)⟩
    rename_i hf
    split at h
    · rename_i hg
      obtain ⟨cs, p, s', h1, h2, h3⟩ := evOp_way h
      obtain ⟨ds, s'', k1, k2, k3⟩ := evOpsI_way hI l h2
      exact ⟨cs ++ ds, s'', CallsOk.append.2 ⟨h1, k1⟩, k2, fun callT' K' hc => by rw [evOpsI, hf, hg]; exact (h3 callT' _ (CallsOk.append.1 hc).1).trans (k3 callT' K' (CallsOk.append.1 hc).2)⟩
    · rename_i j want hg
      split at h
      · cases h
      · rename_i t ht
        rcases guardV_some h with ⟨b, eb, h⟩ | ⟨ev, h⟩
        case inr =>
          obtain ⟨ds, s'', k1, k2, k3⟩ := evOpsI_way hI l h
          exact ⟨ds, s'', k1, k2, fun callT' K' hc => by
            rw [evOpsI, hf, hg]
            simp only [ht, ev, guardV]
            exact k3 callT' K' hc⟩
        split at h
        · rename_i hb
          obtain ⟨cs, p, s', h1, h2, h3⟩ := evOp_way h
          obtain ⟨ds, s'', k1, k2, k3⟩ := evOpsI_way hI l h2
          exact ⟨cs ++ ds, s'', CallsOk.append.2 ⟨h1, k1⟩, k2, fun callT' K' hc => by
            rw [evOpsI, hf, hg]
            simp only [ht, eb, guardV, if_pos hb]
            exact (h3 callT' _ (CallsOk.append.1 hc).1).trans (k3 callT' K' (CallsOk.append.1 hc).2)⟩
        · rename_i hb
          obtain ⟨ds, s'', k1, k2, k3⟩ := evOpsI_way hI l h
          exact ⟨ds, s'', k1, k2, fun callT' K' hc => by
            rw [evOpsI, hf, hg]
            simp only [ht, eb, guardV, if_neg hb]
            exact k3 callT' K' hc⟩
theorem evRun_way {I : CallT → InlT R} (hI : InlWay r I) {ann : List (Nat × Point)} {lim id : Nat} {draw : Bool} {ops : Array Oper} {s : St} {K : St → Option R} (h : evRun P S callT (I callT) ann lim id draw ops s K = some r) :
    ∃ cs s', CallsOk callT cs ∧ K s' = some r ∧ ∀ (callT' : CallT) (K' : St → Option R), CallsOk callT' cs → evRun P S callT' (I callT') ann lim id draw ops s K' = K' s' := by
  unfold evRun at h
  split at h
  case isFalse => cases h
  rename_i hl
  split at h
  · rename_i x hx
    split at h
    · cases h
    · rename_i hd
      obtain ⟨cs, s', h1, h2, h3⟩ := evOpsI_way hI _ h
      exact ⟨cs, s', h1, h2, fun callT' K' hc => by unfold evRun; rw [if_pos hl, hx]; simp only; rw [if_neg hd]; exact h3 callT' K' hc⟩
  · rename_i hx
    obtain ⟨cs, s', h1, h2, h3⟩ := evReg_way h
    exact ⟨cs, s', h1, h2, fun callT' K' hc => by unfold evRun; rw [if_pos hl, hx]; exact h3 callT' K' hc⟩
abbrev Self (R : Type) : Type := List It → St → Option R
/-- How a run goes on: to its end, or to a point. -/
def Goes (r : R) (self : Self R) (fin : St → Option R) (callT : CallT) (G : CallT → Self R → (St → Option R) → Option R) : Prop :=
  ∃ cs, CallsOk callT cs ∧ ((∃ s', fin s' = some r ∧ ∀ callT' self' fin', CallsOk callT' cs → G callT' self' fin' = fin' s') ∨ ∃ its' s', self its' s' = some r ∧ ∀ callT' self' fin', CallsOk callT' cs → G callT' self' fin' = self' its' s')
theorem Goes.mono {self : Self R} {fin : St → Option R} {G G' : CallT → Self R → (St → Option R) → Option R} {cs : List CallRec} (hc : CallsOk callT cs) (h : Goes r self fin callT G) (hG : ∀ callT' self' fin', CallsOk callT' cs → G' callT' self' fin' = G callT' self' fin') : Goes r self fin callT G' := by
  obtain ⟨ds, k1, k2⟩ := h
  refine ⟨cs ++ ds, CallsOk.append.2 ⟨hc, k1⟩, ?_⟩
  rcases k2 with ⟨s', h1, h2⟩ | ⟨its', s', h1, h2⟩
  · exact .inl ⟨s', h1, fun callT' self' fin' q => (hG _ _ _ (CallsOk.append.1 q).1).trans (h2 _ _ _ (CallsOk.append.1 q).2)⟩
  · exact .inr ⟨its', s', h1, fun callT' self' fin' q => (hG _ _ _ (CallsOk.append.1 q).1).trans (h2 _ _ _ (CallsOk.append.1 q).2)⟩
theorem run1_way {I : CallT → InlT R} (hI : InlWay r I) {lim : Nat} {self : Self R} {fin : St → Option R} {ann : List (Nat × Point)} : ∀ (n : Nat) (its : List It) (s : St), run1 P S callT (I callT) self ann fin lim n its s = some r → Goes r self fin callT (fun callT self fin => run1 P S callT (I callT) self ann fin lim n its s)
  | 0, its, s, h => by rw [run1] at h; cases h
  | n + 1, [], s, h => by
    rw [run1] at h
    exact ⟨[], .nil, .inl ⟨s, h, fun _ _ _ _ => by simp only [run1]⟩⟩
  | n + 1, .inBlock id :: k, s, h => by
    rw [run1] at h
    exact (run1_way hI n k s h).mono .nil fun _ _ _ _ => by rw [run1]
  | n + 1, .inScope c :: k, s, h => by
    rw [run1] at h
    exact (run1_way hI n k s h).mono .nil fun _ _ _ _ => by rw [run1]
  | n + 1, .inLoop c :: k, s, h => by
    rw [run1] at h
    exact (run1_way hI n (.code c :: .inLoop c :: k) s h).mono .nil fun _ _ _ _ => by rw [run1]
  | n + 1, .here co :: k, s, h => by
    cases co with
    | region id ops draw =>
      rw [run1] at h
      obtain ⟨cs, s', h1, h2, h3⟩ := evRun_way hI h
      exact (run1_way hI n k s' h2).mono h1 fun callT' self' fin' hc => by rw [run1]; exact h3 callT' _ hc
    | _ => rw [run1] at h <;> first | cases h; done | nofun
  | n + 1, .code co :: k, s, h => by
    cases co with
    | skip =>
      rw [run1] at h
      exact (run1_way hI n k s h).mono .nil fun _ _ _ _ => by rw [run1]
    | seq x y =>
      rw [run1] at h
      exact (run1_way hI n (.code x :: .code y :: k) s h).mono .nil fun _ _ _ _ => by rw [run1]
    | cond x y z =>
      rw [run1] at h
      split at h
      case isFalse => cases h
      rename_i hx
      obtain ⟨q, eq, h⟩ := ofBool_some h
      cases q with
      | true => exact (run1_way hI n (.code y :: k) s h).mono .nil fun _ _ _ _ => by rw [run1, if_pos hx, eq]; rfl
      | false => exact (run1_way hI n (.code z :: k) s h).mono .nil fun _ _ _ _ => by rw [run1, if_pos hx, eq]; rfl
    | block id x =>
      rw [run1] at h
      exact (run1_way hI n (.code x :: .inBlock id :: k) s h).mono .nil fun _ _ _ _ => by rw [run1]
    | loop x =>
      rw [run1] at h
      exact (run1_way hI n (.code x :: .inLoop x :: k) s h).mono .nil fun _ _ _ _ => by rw [run1]
    | exit id =>
      rw [run1] at h
      split at h
      · rename_i k' hk
        exact (run1_way hI n k' s h).mono .nil fun _ _ _ _ => by rw [run1, hk]
      · cases h
    | scope x =>
      rw [run1] at h
      exact (run1_way hI n (.code x :: .inScope x :: k) s h).mono .nil fun _ _ _ _ => by rw [run1]
    | ret =>
      rw [run1] at h
      exact ⟨[], .nil, .inl ⟨s, h, fun _ _ _ _ => by simp only [run1]⟩⟩
    | region id ops draw =>
      rw [run1] at h
      split at h
      · rename_i kp hk
        exact ⟨[], .nil, .inr ⟨_, _, h, fun _ _ _ _ => by simp only [run1, hk]⟩⟩
      · rename_i hk
        obtain ⟨cs, s', h1, h2, h3⟩ := evRun_way hI h
        exact (run1_way hI n k s' h2).mono h1 fun callT' self' fin' hc => by rw [run1, hk]; exact h3 callT' _ hc
    | _ => rw [run1] at h <;> first | cases h; done | nofun
theorem Goes.use {self self' : Self R} {fin : St → Option R} {callT callT' : CallT} {G : CallT → Self R → (St → Option R) → Option R} (h : Goes r self fin callT G) (hc : ∀ f g args x, callT f g args = some x → callT' f g args = some x) (hs : ∀ its s, self its s = some r → self' its s = some r) : G callT' self' fin = some r := by
  obtain ⟨cs, h1, h2⟩ := h
  have hok : CallsOk callT' cs := fun c q => hc _ _ _ _ (h1 c q)
  rcases h2 with ⟨s', k1, k2⟩ | ⟨its', s', k1, k2⟩
  · rw [k2 callT' self' fin hok]
    exact k1
  · rw [k2 callT' self' fin hok]
    exact hs _ _ k1
theorem inlN_way : ∀ d : Nat, InlWay r (fun callT => inlN (R := R) P S callT d)
  | 0 => fun callT f s args K h => by
    have h : inlN P S callT 0 f s args K = some r := h
    rw [inlN] at h
    cases h
  | d + 1 => fun callT f s args K h => by
    have h : inlN P S callT (d + 1) f s args K = some r := h
    rw [inlN] at h
    simp only at h
    split at h
    case h_2 => cases h
    rename_i g fn hg hfn
    split at h
    case h_2 => cases h
    rename_i co hco
    split at h
    case isFalse => cases h
    rename_i hc
    obtain ⟨cs, k1, k2⟩ := run1_way (inlN_way d) _ _ _ h
    rcases k2 with ⟨s', q1, q2⟩ | ⟨_, _, q, _⟩
    case inr => cases q
    unfold finI at q1
    split at q1
    case h_2 => cases q1
    rename_i vs hvs
    refine ⟨cs, _, _, k1, q1, fun callT' K' hk => ?_⟩
    show inlN P S callT' (d + 1) f s args K' = _
    rw [inlN]
    simp only [hg, hfn, hco]
    rw [if_pos hc]
    refine (q2 callT' (fun _ _ => none) (finI P fn K') hk).trans ?_
    unfold finI
    rw [hvs]
end
section
variable {P : Program} {S : List (FuncId × FSig)}
theorem runF_succ {R : Type} (k : Nat) (ann : List (Nat × Point)) (fin : St → Option R) (its : List It) (s : St) : runF P S (k + 1) ann fin its s = run1 P S (callF P S k) (inlN P S (callF P S k) 8) (runF P S k ann fin) ann fin 0 gas its s := rfl
theorem callF_of {k k' : Nat} (h : ∀ {R : Type} (r : R) ann (fin : St → Option R) its s, runF P S k ann fin its s = some r → runF P S k' ann fin its s = some r) {f : FuncId} {g : FSig} {args : List PV} {x : g.res.den} (q : callF P S k f g args = some x) : callF P S k' f g args = some x := by
  unfold callF at q ⊢
  split at q
  · cases q
  · split at q
    · cases q
    · rw [Option.bind_eq_some_iff] at q ⊢
      obtain ⟨s, h1, q⟩ := q
      exact ⟨s, h1, h _ _ _ _ _ q⟩
theorem runF_mono : ∀ (k : Nat) {R : Type} (r : R) ann (fin : St → Option R) its s, runF P S k ann fin its s = some r → runF P S (k + 1) ann fin its s = some r
  | 0, R, r, ann, fin, its, s, h => by rw [runF] at h; cases h
  | k + 1, R, r, ann, fin, its, s, h => by
    rw [runF_succ] at h ⊢
    exact (run1_way (inlN_way 8) gas its s h).use (fun f g args x q => callF_of (runF_mono k) q) (fun its s q => runF_mono k r ann fin its s q)
theorem runF_le {k k' : Nat} (hk : k ≤ k') {R : Type} (r : R) (ann : List (Nat × Point)) (fin : St → Option R) (its : List It) (s : St) (h : runF P S k ann fin its s = some r) : runF P S k' ann fin its s = some r := by
  induction hk with
  | refl => exact h
  | step _ ih => exact runF_mono _ _ _ _ _ _ ih
theorem callF_le {k k' : Nat} (hk : k ≤ k') {f : FuncId} {g : FSig} {args : List PV} {x : g.res.den} (q : callF P S k f g args = some x) : callF P S k' f g args = some x := callF_of (fun r ann fin its s h => runF_le hk r ann fin its s h) q
open Classical in
/-- What is answered from some number of rounds on. -/
noncomputable def limO {α : Type} (g : Nat → Option α) : Option α := if h : ∃ k x, g k = some x then some h.choose_spec.choose else none
theorem limO_some {α : Type} {g : Nat → Option α} (hm : ∀ k k' x, k ≤ k' → g k = some x → g k' = some x) {x : α} : limO g = some x ↔ ∃ k, g k = some x := by
  constructor
  · intro h
    unfold limO at h
    split at h
    · rename_i hx
      have := hx.choose_spec.choose_spec
      cases h
      exact ⟨_, this⟩
    · cases h
  · rintro ⟨k, hk⟩
    have hx : ∃ k x, g k = some x := ⟨k, x, hk⟩
    unfold limO
    rw [dif_pos hx]
    have h1 := hm _ _ _ (Nat.le_max_left hx.choose k) hx.choose_spec.choose_spec
    have h2 := hm _ _ _ (Nat.le_max_right hx.choose k) hk
    rw [h1] at h2
    exact h2
noncomputable def callL (P : Program) (S : List (FuncId × FSig)) (f : FuncId) (g : FSig) (args : List PV) : Option g.res.den := limO fun k => callF P S k f g args
noncomputable def runL (P : Program) (S : List (FuncId × FSig)) {R : Type} (ann : List (Nat × Point)) (fin : St → Option R) (its : List It) (s : St) : Option R := limO fun k => runF P S k ann fin its s
theorem callL_some {f : FuncId} {g : FSig} {args : List PV} {x : g.res.den} : callL P S f g args = some x ↔ ∃ k, callF P S k f g args = some x := limO_some fun _ _ _ hk h => callF_le hk h
theorem runL_some {R : Type} {ann : List (Nat × Point)} {fin : St → Option R} {its : List It} {s : St} {x : R} : runL P S ann fin its s = some x ↔ ∃ k, runF P S k ann fin its s = some x := limO_some fun _ _ _ hk h => runF_le hk _ _ _ _ _ h
theorem opt_ext {α : Type} {a b : Option α} (h : ∀ x, a = some x ↔ b = some x) : a = b := by
  cases a with
  | none =>
    cases b with
    | none => rfl
    | some y => exact absurd ((h y).2 rfl) (by simp)
  | some x => exact ((h x).1 rfl).symm
theorem callsOk_max {cs : List CallRec} (h : ∀ c, c ∈ cs → ∃ k, callF P S k c.f c.g c.args = some c.x) : ∃ K, ∀ k, K ≤ k → CallsOk (callF P S k) cs := by
  induction cs with
  | nil => exact ⟨0, fun _ _ => .nil⟩
  | cons c cs ih =>
    obtain ⟨K, hK⟩ := ih fun d hd => h d (List.mem_cons_of_mem _ hd)
    obtain ⟨k, hk⟩ := h c List.mem_cons_self
    refine ⟨max K k, fun m hm d hd => ?_⟩
    rcases List.mem_cons.1 hd with rfl | q
    · exact callF_le (by omega) hk
    · exact hK m (by omega) d q
theorem runL_eq {R : Type} (ann : List (Nat × Point)) (fin : St → Option R) (its : List It) (s : St) : runL P S ann fin its s = run1 P S (callL P S) (inlN P S (callL P S) 8) (runL P S ann fin) ann fin 0 gas its s := by
  refine opt_ext fun x => ⟨fun h => ?_, fun h => ?_⟩
  · obtain ⟨k, hk⟩ := runL_some.1 h
    have hk := runF_mono _ _ _ _ _ _ hk
    rw [runF_succ] at hk
    exact (run1_way (inlN_way 8) gas its s hk).use (fun f g args x q => callL_some.2 ⟨k, q⟩) (fun its s q => runL_some.2 ⟨k, q⟩)
  · obtain ⟨cs, h1, h2⟩ := run1_way (inlN_way 8) gas its s h
    obtain ⟨K, hK⟩ := callsOk_max fun c hc => callL_some.1 (h1 c hc)
    rcases h2 with ⟨s', k1, k2⟩ | ⟨its', s', k1, k2⟩
    · exact runL_some.2 ⟨K + 1, by rw [runF_succ]; exact (k2 _ _ fin (hK K (Nat.le_refl _))).trans k1⟩
    · obtain ⟨k, hk⟩ := runL_some.1 k1
      exact runL_some.2 ⟨max K k + 1, by rw [runF_succ]; exact (k2 _ _ fin (hK _ (Nat.le_max_left _ _))).trans (runF_le (Nat.le_max_right _ _) _ _ _ _ _ hk)⟩
/-- A call, its body laid open for one round. -/
noncomputable def callB (P : Program) (S : List (FuncId × FSig)) (f : FuncId) (g : FSig) (args : List PV) : Option g.res.den :=
  match P.funcs[f]? with
  | none => none
  | some fn =>
    match fn.body with
    | none => none
    | some c => (startS g.par args fn.ntmps).bind fun s => run1 P S (callL P S) (inlN P S (callL P S) 8) (runL P S g.ann (finT P fn g)) g.ann (finT P fn g) 0 gas [.code c] s
theorem callL_eq (f : FuncId) (g : FSig) (args : List PV) : callL P S f g args = callB P S f g args := by
  unfold callB
  split
  · rename_i h
    unfold callL
    have : ∀ k, callF P S k f g args = none := fun k => by unfold callF; rw [h]
    refine opt_ext fun x => ⟨fun q => ?_, fun q => by cases q⟩
    obtain ⟨k, hk⟩ := callL_some.1 q
    rw [this] at hk
    cases hk
  · rename_i fn h
    split
    · rename_i hb
      have : ∀ k, callF P S k f g args = none := fun k => by unfold callF; simp only [h, hb]
      refine opt_ext fun x => ⟨fun q => ?_, fun q => by cases q⟩
      obtain ⟨k, hk⟩ := callL_some.1 q
      rw [this] at hk
      cases hk
    · rename_i c hb
      have : ∀ k, callF P S k f g args = (startS g.par args fn.ntmps).bind fun s => runF P S k g.ann (finT P fn g) [.code c] s := fun k => by unfold callF; simp only [h, hb]
      refine opt_ext fun x => ?_
      rw [callL_some]
      simp only [this]
      cases startS g.par args fn.ntmps with
      | none => simp
      | some s =>
        simp only [Option.bind_some]
        rw [← runL_eq, runL_some]
/-- The rest of a body at a region. -/
def itsAt (j : Nat) : Code → List It → Option (List It)
  | .region id ops draw, k => if Nat.beq id j = true then some (.here (.region id ops draw) :: k) else none
  | .seq a b, k => match itsAt j a (.code b :: k) with | some l => some l | none => itsAt j b k
  | .cond _ a b, k => match itsAt j a k with | some l => some l | none => itsAt j b k
  | .block id a, k => itsAt j a (.inBlock id :: k)
  | .loop a, k => itsAt j a (.inLoop a :: k)
  | .scope a, k => itsAt j a (.inScope a :: k)
  | _, _ => none
def itsOf (j : Nat) (fn : Func) : List It :=
  match fn.body with
  | some c => (match itsAt j c [] with | some l => l | none => [])
  | none => []
def mkE : Nat → Nat → List (Nat × PV) → List PV
  | _, 0, _ => []
  | i, n + 1, [] => .undef :: mkE (i + 1) n []
  | i, n + 1, (j, v) :: r => if Nat.beq i j = true then v :: mkE (i + 1) n r else .undef :: mkE (i + 1) n ((j, v) :: r)
/-- The rest of a call from a point on. -/
noncomputable def ptL (P : Program) (S : List (FuncId × FSig)) (fn : Func) (g : FSig) (j : Nat) (env : List (Nat × PV)) (sto : List (Nat × Blk)) : Option g.res.den := runL P S g.ann (finT P fn g) (itsOf j fn) ⟨mkE 0 fn.ntmps env, sto⟩
noncomputable def ptB (P : Program) (S : List (FuncId × FSig)) (fn : Func) (g : FSig) (j : Nat) (env : List (Nat × PV)) (sto : List (Nat × Blk)) : Option g.res.den := run1 P S (callL P S) (inlN P S (callL P S) 8) (runL P S g.ann (finT P fn g)) g.ann (finT P fn g) 0 gas (itsOf j fn) ⟨mkE 0 fn.ntmps env, sto⟩
theorem ptL_eq (fn : Func) (g : FSig) (j : Nat) (env : List (Nat × PV)) (sto : List (Nat × Blk)) : ptL P S fn g j env sto = ptB P S fn g j env sto := runL_eq _ _ _ _
theorem callL_ok {W0 : World} (hS : OkS P S W0) {f : FuncId} {g : FSig} {args : List PV} {x : g.res.den} (h : callL P S f g args = some x) : CallOk W0 P f g args x := by
  obtain ⟨k, hk⟩ := callL_some.1 h
  exact callF_sound hS hk
end
end Go.Proofs.Ytbaekdcacmoniaa.Pv
