/- The way of a run: which calls it made and where it went on; another run whose calls answer alike goes the same way. -/
import Derived.Test.YtbaekdcacmoniaaPv20
namespace Go.Proofs.Ytbaekdcacmoniaa.Pv
open Go Go.RowKit

structure CallRec : Type where
  f : FuncId
  g : FSig
  args : List PV
  x : g.res.den
abbrev CallT : Type := (f : FuncId) → (g : FSig) → List PV → Option g.res.den
def CallsOk (callT : CallT) (cs : List CallRec) : Prop := ∀ c, c ∈ cs → callT c.f c.g c.args = some c.x
theorem CallsOk.nil {callT : CallT} : CallsOk callT [] := fun _ h => by cases h
theorem CallsOk.append {callT : CallT} {cs ds : List CallRec} : CallsOk callT (cs ++ ds) ↔ CallsOk callT cs ∧ CallsOk callT ds := by
  unfold CallsOk
  constructor
  · exact fun h => ⟨fun c hc => h c (List.mem_append_left _ hc), fun c hc => h c (List.mem_append_right _ hc)⟩
  · rintro ⟨h, k⟩ c hc
    rcases List.mem_append.1 hc with q | q
    · exact h c q
    · exact k c q
section
variable {R : Type} {r : R} {P : Program} {S : List (FuncId × FSig)} {callT : CallT} {s : St}
theorem bound_way {lo hi : Int} {n : Option PV} {d : Int} {K : Int → Option R} (q : bound lo hi n d K = some r) : ∃ i, K i = some r ∧ ∀ (K' : Int → Option R), bound lo hi n d K' = K' i := by
  obtain ⟨i, h1, h2⟩ := bound_both q
  exact ⟨i, h1, fun K' => h2 K'⟩
theorem evSlice_way {d : Nat} {t : TypeId} {x : PV} {lo hi : Option PV} {K : PV → St → Option R} (q : evSlice P s d t x lo hi K = some r) : ∃ p s', K p s' = some r ∧ ∀ (K' : PV → St → Option R), evSlice P s d t x lo hi K' = K' p s' := by
  by_cases hx : ∀ id, x ≠ .own id
  · obtain ⟨p, h1, h2⟩ := evSlice_sub hx q
    exact ⟨p, s, h1, fun K' => h2 s K'⟩
  · obtain ⟨id, rfl⟩ : ∃ id, x = .own id := Classical.byContradiction fun h => hx fun id e => h ⟨id, e⟩
    unfold evSlice at q
    split at q
    · split at q
      · rename_i e
        cases e
      · cases q
    · rename_i e hu
      simp only at q
      split at q
      · rename_i e' τ rr hl
        split at q
        · rename_i hs
          obtain ⟨i, q, b1⟩ := bound_way q
          exact ⟨_, _, q, fun K' => by simp only [evSlice, hu, hl, if_pos hs, b1]⟩
        · cases q
      · rename_i e' τ rr lo' hl
        split at q
        · rename_i hs
          obtain ⟨i, q, b1⟩ := bound_way q
          obtain ⟨j, q, b2⟩ := bound_way q
          exact ⟨_, _, q, fun K' => by simp only [evSlice, hu, hl, if_pos hs, b1, b2]⟩
        · cases q
      · cases q
    · cases q
theorem evStore_way {t : TypeId} {x y : PV} {K : St → Option R} (q : evStore P s t x y K = some r) : ∃ s', K s' = some r ∧ ∀ (K' : St → Option R), evStore P s t x y K' = K' s' := by
  unfold evStore at q
  split at q
  · cases q
  · rename_i n hn
    split at q
    · rename_i hc
      split at q
      · rename_i id off
        split at q
        · rename_i t0 cs hl
          split at q
          · rename_i hle
            exact ⟨_, q, fun K' => by simp only [evStore, hn, if_pos hc, hl, if_pos hle]⟩
          · cases q
        · cases q
      · rename_i id z i off
        split at q
        · rename_i e τ l hl
          split at q
          · rename_i hz
            split at q
            · rename_i y' hy
              exact ⟨_, q, fun K' => by simp only [evStore, hn, if_pos hc, hl, if_pos hz, hy]⟩
            · cases q
          · cases q
        · cases q
      · cases q
    · cases q
theorem evZeros_way {d : Nat} {t : TypeId} {x y : PV} {K : PV → St → Option R} (q : evZeros P s d t x y K = some r) : ∃ p s', K p s' = some r ∧ ∀ (K' : PV → St → Option R), evZeros P s d t x y K' = K' p s' := by
  unfold evZeros at q
  split at q
  case h_2 => cases q
  rename_i e τ b k n he
  split at q
  case h_2 => cases q
  rename_i z hz
  split at q
  case h_2 => cases q
  rename_i x0 hx
  split at q
  case isFalse => cases q
  rename_i hn
  split at q
  case isFalse => cases q
  rename_i hb
  exact ⟨_, _, q, fun K' => by simp only [evZeros, he, hz, hx, if_pos hn, if_pos hb]⟩
theorem evAppend_way {d : Nat} {t : TypeId} {x y : PV} {K : PV → St → Option R} (q : evAppend P s d t x y K = some r) : ∃ p s', K p s' = some r ∧ ∀ (K' : PV → St → Option R), evAppend P s d t x y K' = K' p s' := by
  unfold evAppend at q
  split at q
  · rename_i e τ b he
    split at q
    · split at q
      · rename_i m hm
        split at q
        · rename_i hlim
          exact ⟨_, _, q, fun K' => by simp only [evAppend, he, hm, if_pos hlim]⟩
        · cases q
      · cases q
    · split at q
      · rename_i m hm
        split at q
        · rename_i hlim
          exact ⟨_, _, q, fun K' => by simp only [evAppend, he, hm, if_pos hlim]⟩
        · cases q
      · cases q
    · rename_i id
      split at q
      · rename_i l m hl hm
        split at q
        case isFalse => cases q
        rename_i hnd
        split at q
        · rename_i hlim
          exact ⟨_, _, q, fun K' => by simp only [evAppend, he, hl, hm, if_pos hnd, if_pos hlim]⟩
        · cases q
      · cases q
    · rename_i id i
      split at q
      · rename_i e0 e' τ' l hlk
        split at q
        · rename_i l0 m hl hm
          split at q
          · rename_i hc
            split at q
            · rename_i hlim
              exact ⟨_, _, q, fun K' => by simp only [evAppend, he, hlk, hl, hm, if_pos hc, if_pos hlim]⟩
            · cases q
          · cases q
        · cases q
      · cases q
    · cases q
  · cases q
theorem evMake_way {pl : Bool} {d : Nat} {t : TypeId} {l k : PV} {K : PV → St → Option R} (q : evMake P pl s d t l k K = some r) : ∃ p s', K p s' = some r ∧ ∀ (K' : PV → St → Option R), evMake P pl s d t l k K' = K' p s' := by
  unfold evMake at q
  split at q
  · rename_i e τ b kk n kk' n' he
    split at q
    · rename_i z hz
      split at q
      · rename_i x0 hx0
        split at q
        · rename_i c1
          split at q
          · rename_i c2
            split at q
            · rename_i c3
              split at q
              · rename_i c5
                exact ⟨_, _, q, fun K' => by simp only [evMake, he, hz, hx0, if_pos c1, if_pos c2, if_pos c3, if_pos c5]⟩
              · rename_i c5
                exact ⟨_, _, q, fun K' => by simp only [evMake, he, hz, hx0, if_pos c1, if_pos c2, if_pos c3, if_neg c5]⟩
            · cases q
          · cases q
        · rename_i c1
          split at q
          · cases q
          rename_i c0
          split at q
          · rename_i c2
            split at q
            · rename_i c3
              split at q
              · rename_i c4
                exact ⟨_, _, q, fun K' => by simp only [evMake, he, hz, hx0, if_neg c1, if_neg c0, if_pos c2, if_pos c3, if_pos c4]⟩
              · cases q
            · cases q
          · cases q
      · cases q
    · cases q
  · cases q
theorem evEmpt_way {x : PV} {K : PV → St → Option R} (q : evEmpt s x K = some r) : ∃ p s', K p s' = some r ∧ ∀ (K' : PV → St → Option R), evEmpt s x K' = K' p s' := by
  unfold evEmpt at q
  split at q
  · exact ⟨_, _, q, fun K' => rfl⟩
  · exact ⟨_, _, q, fun K' => rfl⟩
  · exact ⟨_, _, q, fun K' => rfl⟩
  · rename_i id
    split at q
    · rename_i hl
      exact ⟨_, _, q, fun K' => by simp only [evEmpt, hl]⟩
    · cases q
  · cases q
theorem evBuiltin_way {d : Nat} {b : Builtin} {ts : List TypeId} {xs : List PV} {K : PV → St → Option R} (q : evBuiltin P s d b ts xs K = some r) : ∃ p s', K p s' = some r ∧ ∀ (K' : PV → St → Option R), evBuiltin P s d b ts xs K' = K' p s' := by
  unfold evBuiltin at q
  split at q
  · rename_i t tl x
    split at q
    · rename_i n hu hn
      split at q
      · rename_i hs
        exact ⟨_, _, q, fun K' => by simp only [evBuiltin, hu, hn, if_pos hs]⟩
      · cases q
    · rename_i e n hu hn
      split at q
      · cases q
      · rename_i hs
        exact ⟨_, _, q, fun K' => by simp only [evBuiltin, hu, hn, if_neg hs]⟩
    · cases q
  · rename_i t t' x y
    split at q
    · rename_i htt
      obtain ⟨p, s', h1, h2⟩ := evAppend_way q
      exact ⟨p, s', h1, fun K' => by simp only [evBuiltin, if_pos htt, h2]⟩
    · rename_i htt
      split at q
      case isFalse => cases q
      rename_i hit
      obtain ⟨p, s', h1, h2⟩ := evZeros_way q
      exact ⟨p, s', h1, fun K' => by simp only [evBuiltin, if_neg htt, if_pos hit, h2]⟩
  · split at q
    · rename_i hu
      exact ⟨_, _, q, fun K' => by simp only [evBuiltin, hu]⟩
    · cases q
  · split at q
    · rename_i hu
      exact ⟨_, _, q, fun K' => by simp only [evBuiltin, hu]⟩
    · cases q
  · exact ⟨_, _, q, fun K' => rfl⟩
  · exact ⟨_, _, q, fun K' => rfl⟩
  · exact ⟨_, _, q, fun K' => rfl⟩
  · exact ⟨_, _, q, fun K' => rfl⟩
  · cases q
theorem resCells_way : ∀ (t : Ty) (x : t.den) (b : Nat) (s : St), ∃ cs b' s', ∀ {R : Type} (K : List PV → Nat → St → Option R), resCells t x b s K = K cs b' s'
  | .int _, _, _, _ => ⟨_, _, _, fun _ => rfl⟩
  | .bool, _, _, _ => ⟨_, _, _, fun _ => rfl⟩
  | .str, _, _, _ => ⟨_, _, _, fun _ => rfl⟩
  | .list true _ _, _, _, _ => ⟨_, _, _, fun _ => rfl⟩
  | .list false _ _, _, _, _ => ⟨_, _, _, fun _ => rfl⟩
  | .prod t u, x, b, s => by
    obtain ⟨cs, b', s', h⟩ := resCells_way t x.1 b s
    obtain ⟨cs', b'', s'', k⟩ := resCells_way u x.2 b' s'
    exact ⟨_, _, _, fun K => by rw [resCells, h, k]⟩
  | .unit, _, _, _ => ⟨_, _, _, fun _ => rfl⟩
  | .tag _ _ _, _, _, _ => ⟨_, _, _, fun _ => rfl⟩
theorem callN_way {f : FuncId} {g : FSig} {args : List PV} {x : g.res.den} (h : callN callT f g args = some x) : ∃ cs, CallsOk callT cs ∧ ∀ callT' : CallT, CallsOk callT' cs → callN callT' f g args = some x := by
  by_cases hh : ∃ t0 e t l, g.par = [.nilv t0] ∧ args = [.row e t l]
  · obtain ⟨t0, e, t, l, hp, rfl⟩ := hh
    have h0 := h
    unfold callN at h
    rw [hp] at h
    simp only at h
    rcases nilOr_some h with ⟨hl, h1, h2⟩ | ⟨hl, h1⟩
    · refine ⟨[⟨f, g, [.nils], x⟩, ⟨f, g, [.zrow], x⟩], fun c hc => ?_, fun callT' hc => ?_⟩
      · rcases List.mem_cons.1 hc with rfl | hc
        · exact h1
        · rw [List.mem_singleton.1 hc]
          exact h2
      · have q1 := hc ⟨f, g, [.nils], x⟩ (by simp)
        have q2 := hc ⟨f, g, [.zrow], x⟩ (by simp)
        simp only at q1 q2
        unfold callN
        rw [hp]
        simp only
        rw [h1, h2] at h
        rw [q1, q2]
        unfold nilOr at h ⊢
        rw [if_pos hl] at h ⊢
        exact h
    · refine ⟨[⟨f, g, [.row e t l], x⟩], fun c hc => ?_, fun callT' hc => ?_⟩
      · rw [List.mem_singleton.1 hc]
        exact h1
      · have q1 := hc ⟨f, g, [.row e t l], x⟩ (by simp)
        simp only at q1
        unfold callN
        rw [hp]
        simp [nilOr, hl, q1]
  · have hN : ∀ callT' : CallT, callN callT' f g args = callT' f g args := by
      intro callT'
      unfold callN
      split
      · rename_i t0 e t l hp
        exact absurd ⟨_, _, _, _, hp, rfl⟩ hh
      · rfl
    rw [hN] at h
    refine ⟨[⟨f, g, args, x⟩], fun c hc => ?_, fun callT' hc => ?_⟩
    · rw [List.mem_singleton.1 hc]
      exact h
    · rw [hN]
      exact hc ⟨f, g, args, x⟩ (by simp)
theorem callIn_way {f : FuncId} {g : FSig} {fn : Func} {d : Nat} {args : List PV} {K : PV → St → Option R} (q : callIn P callT f g fn d s args K = some r) :
    ∃ cs p s', CallsOk callT cs ∧ K p s' = some r ∧ ∀ (callT' : CallT) (K' : PV → St → Option R), CallsOk callT' cs → callIn P callT' f g fn d s args K' = K' p s' := by
  unfold callIn at q
  split at q
  · cases q
  · rename_i hl
    rw [Option.bind_eq_some_iff] at q
    obtain ⟨x, hx, q⟩ := q
    obtain ⟨cs, b', s', hres⟩ := resCells_way g.res x ((d + 1) * 1000) s
    rw [hres] at q
    split at q
    · rename_i vs hvs
      obtain ⟨ds, hds, hgo⟩ := callN_way hx
      refine ⟨ds, _, _, hds, q, fun callT' K' hc => ?_⟩
      · have := hgo callT' hc
        unfold callIn
        rw [if_neg hl, this, Option.bind_some, hres]
        simp only [hvs]
    · cases q
theorem callLent_way {f : FuncId} {g : FSig} {fn : Func} {d i : Nat} {b : TypeId} {t : Ty} {args : List PV} {K : PV → St → Option R} (q : callLent P callT f g fn d s i b t args K = some r) :
    ∃ cs p s', CallsOk callT cs ∧ K p s' = some r ∧ ∀ (callT' : CallT) (K' : PV → St → Option R), CallsOk callT' cs → callLent P callT' f g fn d s i b t args K' = K' p s' := by
  unfold callLent at q
  split at q
  case h_2 => cases q
  rename_i id hid
  split at q
  case h_2 => cases q
  rename_i b' cs hl
  split at q
  case isFalse => cases q
  rename_i hc
  split at q
  case h_2 => cases q
  rename_i x hx
  rw [Option.bind_eq_some_iff] at q
  obtain ⟨args2, ha2, q⟩ := q
  rw [Option.bind_eq_some_iff] at q
  obtain ⟨y, hy, q⟩ := q
  obtain ⟨cs2, m, s', hres⟩ := resCells_way g.res y ((d + 1) * 1000) ((s.usedL (ownIdsL cs)).setBox id (List.replicate cs.length .undef))
  rw [hres] at q
  split at q
  case isFalse => cases q
  rename_i hm
  split at q
  case h_2 => cases q
  rename_i vs hvs
  refine ⟨[⟨f, g, args2, y⟩], _, _, fun c hk => ?_, q, fun callT' K' hk => ?_⟩
  · rw [List.mem_singleton.1 hk]
    exact hy
  · have q1 := hk ⟨f, g, args2, y⟩ (by simp)
    simp only at q1
    unfold callLent
    simp only [hid, hl, if_pos hc, hx, ha2, Option.bind_some]
    rw [q1, Option.bind_some, hres]
    simp only [if_pos hm, hvs]
def Way (callT : CallT) (r : R) (K : PV → St → Option R) (G : CallT → (PV → St → Option R) → Option R) : Prop :=
  ∃ cs p s', CallsOk callT cs ∧ K p s' = some r ∧ ∀ (callT' : CallT) (K' : PV → St → Option R), CallsOk callT' cs → G callT' K' = K' p s'
theorem Way.pure {K : PV → St → Option R} {G : CallT → (PV → St → Option R) → Option R} {p : PV} {s' : St} (h : K p s' = some r) (k : ∀ callT' K', G callT' K' = K' p s') : Way callT r K G := ⟨[], p, s', .nil, h, fun c K' _ => k c K'⟩
theorem evMakeMap_way {d : Nat} {t : TypeId} {o : Option PV} {K : PV → St → Option R} (q : evMakeMap P s d t o K = some r) : ∃ p s', K p s' = some r ∧ ∀ (K' : PV → St → Option R), evMakeMap P s d t o K' = K' p s' := by
  unfold evMakeMap at q
  split at q
  case h_2 => cases q
  rename_i k v hm
  split at q
  · exact ⟨_, _, q, fun K' => by simp only [evMakeMap, hm]⟩
  · exact ⟨_, _, q, fun K' => by simp only [evMakeMap, hm]⟩
  · cases q
theorem evLookup_way {t : TypeId} {x i : PV} {comma : Bool} {K : PV → Option R} (q : evLookup P s t x i comma K = some r) : ∃ p, K p = some r ∧ ∀ {R' : Type} (K' : PV → Option R'), evLookup P s t x i comma K' = K' p := by
  unfold evLookup at q
  split at q
  case h_2 => cases q
  split at q
  case h_2 => cases q
  rename_i k v l hl
  split at q
  case isFalse => cases q
  rename_i hm
  split at q
  case h_2 => cases q
  rename_i y hy
  split at q
  · rename_i hc
    exact ⟨_, q, fun K' => by simp only [evLookup, hl, if_pos hm, hy, if_pos hc]⟩
  · rename_i hc
    exact ⟨_, q, fun K' => by simp only [evLookup, hl, if_pos hm, hy, if_neg hc]⟩
theorem evMapUpdate_way {t : TypeId} {x i y : PV} {K : St → Option R} (q : evMapUpdate P s t x i y K = some r) : ∃ s', K s' = some r ∧ ∀ (K' : St → Option R), evMapUpdate P s t x i y K' = K' s' := by
  unfold evMapUpdate at q
  split at q
  case h_2 => cases q
  split at q
  case h_2 => cases q
  rename_i k v l hl
  split at q
  case isFalse => cases q
  rename_i hm
  split at q
  case h_2 => cases q
  rename_i a b ha hb
  exact ⟨_, q, fun K' => by simp only [evMapUpdate, hl, if_pos hm, ha, hb]⟩
theorem evNat_way {nm : String} {xs : List PV} {K : PV → Option R} (q : evNat nm xs K = some r) : ∃ p, K p = some r ∧ ∀ {R' : Type} (K' : PV → Option R'), evNat nm xs K' = K' p := by
  unfold evNat at q
  split at q
  case h_2 => cases q
  split at q
  · rename_i h1
    split at q
    case isFalse => cases q
    rename_i h2
    exact ⟨_, q, fun K' => by simp only [evNat, if_pos h1, if_pos h2]⟩
  · rename_i h1
    split at q
    case isFalse => cases q
    rename_i h3
    split at q
    case isFalse => cases q
    rename_i h2
    exact ⟨_, q, fun K' => by simp only [evNat, if_neg h1, if_pos h3, if_pos h2]⟩
theorem evClose_way {t : TypeId} {id : Nat} {i : Int} {x : PV} {K : St → Option R} (q : evClose P s t id i x K = some r) : ∃ s', K s' = some r ∧ ∀ (K' : St → Option R), evClose P s t id i x K' = K' s' := by
  unfold evClose at q
  split at q
  · rename_i k e e' τ l h hl
    split at q
    · rename_i e1 t1 m hk
      split at q
      · rename_i hz
        split at q
        · rename_i m' hm
          split at q
          · exact ⟨_, q, fun K' => by simp only [evClose, hl, hk, if_pos hz, hm]⟩
          · rename_i j
            split at q
            · rename_i hij
              exact ⟨_, q, fun K' => by simp only [evClose, hl, hk, if_pos hz, hm, if_pos hij]⟩
            · cases q
        · cases q
      · cases q
    · cases q
  · cases q
theorem evLib_way {od : Option Tmp} {k : Nat} {ts : List Nat} {xs : List PV} {K : PV → St → Option R} (q : evLib s od k ts xs K = some r) : ∃ p s', K p s' = some r ∧ ∀ {R' : Type} (K' : PV → St → Option R'), evLib s od k ts xs K' = K' p s' := by
  unfold evLib at q
  split at q
  case h_2 => cases q
  split at q
  · cases q
  rename_i hd
  split at q
  · split at q
    case h_2 => cases q
    rename_i hb
    split at q
    case isFalse => cases q
    rename_i hl
    exact ⟨_, _, q, fun K' => by simp only [evLib, if_neg hd, hb, if_pos hl]⟩
  · split at q
    case h_2 => cases q
    rename_i hb
    split at q
    case isFalse => cases q
    rename_i hl
    exact ⟨_, _, q, fun K' => by simp only [evLib, if_neg hd, hb, if_pos hl]⟩
  · split at q
    case h_2 => cases q
    rename_i hb
    split at q
    case isFalse => cases q
    rename_i ht
    exact ⟨_, _, q, fun K' => by simp only [evLib, if_neg hd, hb, if_pos ht]⟩
  · cases q
theorem evPure_way {k : Nat} {ts : List Nat} {xs : List PV} {K : PV → Option R} (q : evPure s k ts xs K = some r) : ∃ p, K p = some r ∧ ∀ {R' : Type} (K' : PV → Option R'), evPure s k ts xs K' = K' p := by
  unfold evPure at q
  split at q
  · split at q
    case isFalse => cases q
    rename_i h1
    exact ⟨_, q, fun K' => by simp only [evPure, if_pos h1]⟩
  · split at q
    case isFalse => cases q
    rename_i h1
    exact ⟨_, q, fun K' => by simp only [evPure, if_pos h1]⟩
  · split at q
    case h_2 => cases q
    rename_i e' l hl
    split at q
    case isFalse => cases q
    rename_i h1
    exact ⟨_, q, fun K' => by simp only [evPure, hl, if_pos h1]⟩
  · cases q
theorem evSplit_way {od : Option Tmp} {ts : List Nat} {xs : List PV} {K : PV → St → Option R} (q : evSplit s od ts xs K = some r) : ∃ p s', K p s' = some r ∧ ∀ {R' : Type} (K' : PV → St → Option R'), evSplit s od ts xs K' = K' p s' := by
  unfold evSplit at q
  split at q
  case h_2 => cases q
  split at q
  case h_2 => cases q
  rename_i b hb
  split at q
  case isFalse => cases q
  rename_i h1
  exact ⟨_, _, q, fun K' => by simp only [evSplit, hb, if_pos h1]⟩
theorem evOp_way {o : Oper} {K : PV → St → Option R} (q : evOp P S callT s o K = some r) : Way callT r K (fun callT K => evOp P S callT s o K) := by
  have q0 := q
  unfold evOp at q
  split at q
  · rename_i ho
    exact .pure q (fun _ _ => by simp only [evOp, ho])
  · rename_i ho
    exact .pure q (fun _ _ => by simp only [evOp, ho])
  · rename_i x y z ho
    obtain ⟨b, e, q⟩ := ofBool_some q
    cases b with
    | true => exact .pure q (fun _ _ => by simp only [evOp, ho, e, ofBool, if_true])
    | false => exact .pure q (fun _ _ => by simp [evOp, ho, e, ofBool])
  · rename_i t ho
    split at q
    · rename_i d z hd hz
      split at q
      · cases q
      · rename_i hh
        exact .pure q (fun _ _ => by simp only [evOp, ho, hd, hz, if_neg hh])
    · cases q
  · rename_i t x ho
    split at q
    · cases q
    · rename_i d hd
      split at q
      · rename_i hk
        exact .pure q (fun _ _ => by simp only [evOp, ho, hd, if_pos hk])
      · cases q
  · rename_i t ps ho
    split at q
    · rename_i v hv
      exact .pure q (fun _ _ => by simp only [evOp, ho, hv])
    · cases q
  · rename_i t n ps ho
    split at q
    · rename_i d e τ b hd he
      split at q
      · rename_i hn
        simp only at q
        split at q
        · rename_i l hl
          exact .pure q (fun _ _ => by simp only [evOp, ho, hd, he, if_pos hn, hl])
        · cases q
      · cases q
    · cases q
  · rename_i t x ho
    split at q
    · rename_i v hv
      exact .pure q (fun _ _ => by simp only [evOp, ho, hv])
    · cases q
  · rename_i t x y ho
    split at q
    · rename_i id i ex
      obtain ⟨s', h1, h2⟩ := evClose_way q
      exact .pure h1 (fun _ _ => by simp only [evOp, ho, ex, h2])
    · rename_i hno
      obtain ⟨s', h1, h2⟩ := evStore_way q
      exact .pure h1 (fun _ _ => by simp only [evOp, ho, h2])
  · rename_i t o' ho
    split at q
    · rename_i d hd
      obtain ⟨p, s', h1, h2⟩ := evMakeMap_way q
      exact .pure h1 (fun _ _ => by simp only [evOp, ho, hd, h2])
    · cases q
  · rename_i t x i comma ho
    obtain ⟨p, h1, h2⟩ := evLookup_way q
    exact .pure h1 (fun _ _ => by simp only [evOp, ho, h2])
  · rename_i t x i y ho
    obtain ⟨s', h1, h2⟩ := evMapUpdate_way q
    exact .pure h1 (fun _ _ => by simp only [evOp, ho, h2])
  · rename_i x ho
    split at q <;> first
      | cases q; done
      | (rename_i e
         split at q
         case isFalse => cases q
         rename_i hf
         exact .pure q (fun _ _ => by simp only [evOp, ho, e, if_pos hf]))
      | (rename_i e
         exact .pure q (fun _ _ => by simp only [evOp, ho, e]))
  · rename_i op t x y t2 ho
    rw [evBin_bind, Option.bind_eq_some_iff] at q
    obtain ⟨p, q1, q2⟩ := q
    exact .pure q2 (fun _ _ => by simp only [evOp, ho]; rw [evBin_bind, q1]; rfl)
  · rename_i op t x ho
    rw [evUn_bind, Option.bind_eq_some_iff] at q
    obtain ⟨p, q1, q2⟩ := q
    exact .pure q2 (fun _ _ => by simp only [evOp, ho]; rw [evUn_bind, q1]; rfl)
  · rename_i src dst x ho
    obtain ⟨p, q1, q2⟩ := evConv_sub q
    exact .pure q1 (fun _ K' => by simp only [evOp, ho]; exact q2 s (Sub.refl s) K')
  · rename_i f first caps ho
    split at q
    · rename_i hf
      exact .pure q (fun _ _ => by simp only [evOp, ho, if_pos hf])
    · cases q
  · rename_i t x ho
    split at q
    case isFalse => cases q
    rename_i hf
    exact .pure q (fun _ _ => by simp only [evOp, ho, if_pos hf])
  · rename_i x xt t comma ho
    split at q
    case h_2 => cases q
    rename_i f p e
    split at q
    case isFalse => cases q
    rename_i hf
    split at q
    · rename_i hcm
      exact .pure q (fun _ _ => by simp only [evOp, ho, e, if_pos hf, if_pos hcm])
    · rename_i hcm
      exact .pure q (fun _ _ => by simp only [evOp, ho, e, if_pos hf, if_neg hcm])
  · rename_i t l k ho
    split at q
    · rename_i d hd
      obtain ⟨p, s', h1, h2⟩ := evMake_way q
      exact .pure h1 (fun _ _ => by simp only [evOp, ho, hd, h2])
    · cases q
  · rename_i t x lo hi ho
    obtain ⟨p, s', h1, h2⟩ := evSlice_way q
    exact .pure h1 (fun _ _ => by simp only [evOp, ho, h2])
  · rename_i t x hi mx ho
    split at q
    · rename_i e k i k' j hu eh em
      split at q
      case isFalse => cases q
      rename_i hsz
      split at q
      case isFalse => cases q
      rename_i hi0
      split at q
      case isFalse => cases q
      rename_i hj0
      obtain ⟨p, s', h1, h2⟩ := evEmpt_way q
      exact .pure h1 (fun _ _ => by simp only [evOp, ho, hu, eh, em, if_pos hsz, if_pos hi0, if_pos hj0, h2])
    · cases q
  · rename_i t x f ho
    split at q
    · rename_i fd hfd
      split at q <;> first
        | cases q; done
        | (rename_i e
           exact .pure q (fun _ _ => by simp only [evOp, ho, e, hfd]))
    · cases q
  · rename_i t x f ho
    split at q
    · rename_i fd cs hfd e
      split at q
      · rename_i v hv
        exact .pure q (fun _ _ => by simp only [evOp, ho, e, hfd, hv])
      · cases q
    · cases q
  · rename_i t x i ho
    rw [evIndexAddr_bind, Option.bind_eq_some_iff] at q
    obtain ⟨p, q1, q2⟩ := q
    exact .pure q2 (fun _ _ => by simp only [evOp, ho]; rw [evIndexAddr_bind, q1]; rfl)
  · rename_i t x i ho
    rw [evIndex_bind, Option.bind_eq_some_iff] at q
    obtain ⟨p, q1, q2⟩ := q
    exact .pure q2 (fun _ _ => by simp only [evOp, ho]; rw [evIndex_bind, q1]; rfl)
  · rename_i x i ho
    split at q
    · rename_i vs e
      split at q
      · rename_i v hv
        exact .pure q (fun _ _ => by simp only [evOp, ho, e, hv])
      · cases q
    · cases q
  · rename_i cl ho
    split at q
    · rename_i b hb
      obtain ⟨p, s', h1, h2⟩ := evBuiltin_way q
      exact .pure h1 (fun _ _ => by simp only [evOp, ho, hb, h2])
    · rename_i x hx
      split at q
      · rename_i f caps ef
        split at q
        case isFalse => cases q
        rename_i hblt
        split at q
        · rename_i fn hnat
          split at q
          case h_2 => cases q
          obtain ⟨p, h1, h2⟩ := evNat_way q
          exact .pure h1 (fun _ _ => by simp only [evOp, ho, hx, ef, if_pos hblt, hnat, h2])
        rename_i hnat
        split at q
        · rename_i k ts hlib
          split at q
          case h_2 => cases q
          split at q
          · rename_i hpk
            obtain ⟨p, h1, h2⟩ := evPure_way q
            exact .pure h1 (fun _ _ => by simp only [evOp, ho, hx, ef, if_pos hblt, hnat, hlib, if_pos hpk, h2])
          · rename_i hpk
            split at q
            · rename_i hk6
              obtain ⟨p, s', h1, h2⟩ := evSplit_way q
              exact .pure h1 (fun _ _ => by simp only [evOp, ho, hx, ef, if_pos hblt, hnat, hlib, if_neg hpk, if_pos hk6, h2])
            · rename_i hk6
              obtain ⟨p, s', h1, h2⟩ := evLib_way q
              exact .pure h1 (fun _ _ => by simp only [evOp, ho, hx, ef, if_pos hblt, hnat, hlib, if_neg hpk, if_neg hk6, h2])
        rename_i hnl
        split at q
        · rename_i g fn hg hfn
          split at q
          · rename_i i b t hla
            split at q
            · rename_i f' caps' ef'
              split at q
              · rename_i hff
                obtain ⟨cs, p, s', h1, h2, h3⟩ := callLent_way q
                exact ⟨cs, p, s', h1, h2, fun callT' K' hc => by simp only [evOp, ho, hx, ef, if_pos hblt, hnat, hnl, hg, hfn, hla, ef', if_pos hff, h3 callT' K' hc]⟩
              · cases q
            · cases q
          rename_i hla
          split at q
          · rename_i hl
            split at q
            · rename_i f' caps' ef'
              split at q
              · rename_i hff
                obtain ⟨cs, p, s', h1, h2, h3⟩ := callIn_way q
                exact ⟨cs, p, s', h1, h2, fun callT' K' hc => by simp only [evOp, ho, hx, ef, if_pos hblt, hnat, hnl, hg, hfn, hla, if_pos hl, ef', if_pos hff, h3 callT' K' hc]⟩
              · cases q
            · cases q
          · rename_i hl
            obtain ⟨cs, p, s', h1, h2, h3⟩ := callIn_way q
            exact ⟨cs, p, s', h1, h2, fun callT' K' hc => by simp only [evOp, ho, hx, ef, if_pos hblt, hnat, hnl, hg, hfn, hla, if_neg hl, h3 callT' K' hc]⟩
        · cases q
      · cases q
    · rename_i x nm hx
      unfold evInvoke at q
      split at q
      case h_2 => cases q
      rename_i f0 p ef
      split at q
      · cases q
      rename_i hblt
      split at q
      · cases q
      rename_i f hm
      split at q
      case h_2 => cases q
      rename_i g fn hg hfn
      split at q
      · rename_i i b t hla
        split at q
        case h_2 => cases q
        rename_i f1 p1 ef1
        split at q
        case isFalse => cases q
        rename_i hff
        obtain ⟨cs, p, s', h1, h2, h3⟩ := callLent_way q
        exact ⟨cs, p, s', h1, h2, fun callT' K' hc => by simp only [evOp, ho, hx, evInvoke, ef, if_neg hblt, hm, hg, hfn, hla, ef1, if_pos hff, h3 callT' K' hc]⟩
      · rename_i hla
        split at q
        · cases q
        rename_i hl
        obtain ⟨cs, p, s', h1, h2, h3⟩ := callIn_way q
        exact ⟨cs, p, s', h1, h2, fun callT' K' hc => by simp only [evOp, ho, hx, evInvoke, ef, if_neg hblt, hm, hg, hfn, hla, if_neg hl, h3 callT' K' hc]⟩
  · cases q
end
end Go.Proofs.Ytbaekdcacmoniaa.Pv
