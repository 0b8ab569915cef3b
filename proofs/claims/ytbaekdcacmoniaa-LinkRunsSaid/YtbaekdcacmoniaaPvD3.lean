/- An operation of a longer part: what it comes to, in any state that knows as much and has its labels free. -/
import Derived.Test.YtbaekdcacmoniaaPvD2
namespace Go.Proofs.Ytbaekdcacmoniaa.Pv
open Go Go.RowKit

section
variable {R : Type} {r : R} {P : Program} {S : List (FuncId × FSig)} {callT : (f : FuncId) → (g : FSig) → List PV → Option g.res.den} {s m : St} {o : Oper}
def Told (P : Program) (S : List (FuncId × FSig)) (callT : (f : FuncId) → (g : FSig) → List PV → Option g.res.den) (s : St) (o : Oper) (K : PV → List (Nat × Blk) → Option R) (r : R) : Prop :=
  ∃ p nb, K p nb = some r ∧ ∀ m, Sub s m → (∀ x, x ∈ o.op.operands.toList → m.ev x = s.ev x) → (∀ l, l ∈ nb.map (·.1) → Clean l m) → evOp P S callT m o (fun p s' => some (p, s')) = some (p, ⟨m.env, nb ++ m.sto⟩)
theorem Told.pure {K : PV → List (Nat × Blk) → Option R} {p : PV} (hK : K p [] = some r) (he : ∀ m, Sub s m → (∀ x, x ∈ o.op.operands.toList → m.ev x = s.ev x) → evOp P S callT m o (fun p s' => some (p, s')) = some (p, m)) : Told P S callT s o K r := ⟨p, [], hK, fun m h hop _ => he m h hop⟩
theorem Told.one {K : PV → List (Nat × Blk) → Option R} {p : PV} {d : Nat} {b : Blk} (hK : heads K p (s.add d b) = some r) (he : ∀ m, Sub s m → (∀ x, x ∈ o.op.operands.toList → m.ev x = s.ev x) → evOp P S callT m o (fun p s' => some (p, s')) = some (p, m.add d b)) : Told P S callT s o K r :=
  ⟨p, [(d, b)], hK, fun m h hop hc => by rw [he m h hop, (hc d (by simp)).add]; rfl⟩
theorem pairs_ev {ps : List (Nat × Operand)} (h : ∀ x, x ∈ ps.map (·.2) → m.ev x = s.ev x) : (ps.map fun p => (p.1, m.ev p.2)) = ps.map fun p => (p.1, s.ev p.2) :=
  List.map_congr_left fun p hp => by rw [h p.2 (List.mem_map.2 ⟨p, hp, rfl⟩)]
theorem evNat_way' {nm : String} {xs : List PV} {K : PV → Option R} (q : evNat nm xs K = some r) : ∃ p, K p = some r ∧ ∀ {R' : Type} (K' : PV → Option R'), evNat nm xs K' = K' p := by
  unfold evNat at q
  split at q
  case h_2 => cases q
  split at q
  · rename_i h1
    split at q
    case isFalse => cases q
    rename_i h2
    exact ⟨_, q, fun K' => by simp only [evNat, if_pos h1, if_pos h2]⟩
  · rename_i h1
    split at q
    case isFalse => cases q
    rename_i h3
    split at q
    case isFalse => cases q
    rename_i h2
    exact ⟨_, q, fun K' => by simp only [evNat, if_neg h1, if_pos h3, if_pos h2]⟩
theorem evLookup_sub {t : TypeId} {x i : PV} {comma : Bool} {K : PV → Option R} (q : evLookup P s t x i comma K = some r) : ∃ p, K p = some r ∧ ∀ (m : St), Sub s m → ∀ {R' : Type} (K' : PV → Option R'), evLookup P m t x i comma K' = K' p := by
  unfold evLookup at q
  split at q
  case h_2 => cases q
  split at q
  case h_2 => cases q
  rename_i k v l hl
  split at q
  case isFalse => cases q
  rename_i hm
  split at q
  case h_2 => cases q
  rename_i y hy
  split at q
  · rename_i hc
    exact ⟨_, q, fun m h R' K' => by simp only [evLookup, h.sto _ _ hl, if_pos hm, hy, if_pos hc]⟩
  · rename_i hc
    exact ⟨_, q, fun m h R' K' => by simp only [evLookup, h.sto _ _ hl, if_pos hm, hy, if_neg hc]⟩
theorem evPure_sub {k : Nat} {ts : List Nat} {xs : List PV} {K : PV → Option R} (q : evPure s k ts xs K = some r) : ∃ p, K p = some r ∧ ∀ (m : St), Sub s m → ∀ {R' : Type} (K' : PV → Option R'), evPure m k ts xs K' = K' p := by
  unfold evPure at q
  split at q
  · split at q
    case isFalse => cases q
    rename_i h1
    exact ⟨_, q, fun m h R' K' => by simp only [evPure, if_pos h1]⟩
  · split at q
    case isFalse => cases q
    rename_i h1
    exact ⟨_, q, fun m h R' K' => by simp only [evPure, if_pos h1]⟩
  · split at q
    case h_2 => cases q
    rename_i e' l hl
    split at q
    case isFalse => cases q
    rename_i h1
    exact ⟨_, q, fun m h R' K' => by simp only [evPure, h.sto _ _ hl, if_pos h1]⟩
  · cases q
theorem evOpD0_spec_ {K : PV → List (Nat × Blk) → Option R} (q : evOpD0 P S callT s o K = some r) : Told P S callT s o K r := by
  unfold evOpD0 at q
  split at q
  case isFalse => cases q
  rename_i hsol
  split at q
  · rename_i x ho
    simp only [evOp, ho] at q
    exact .pure q (fun m h hop => by simp only [ho, Op.operands] at hop; simp only [evOp, ho, hop x (by simp)])
  · rename_i x ho
    simp only [evOp, ho] at q
    exact .pure q (fun m h hop => by simp only [ho, Op.operands] at hop; simp only [evOp, ho, hop x (by simp)])
  · rename_i x y z ho
    simp only [evOp, ho] at q
    obtain ⟨b, e, q⟩ := ofBool_some q
    cases b with
    | true => exact .pure q (fun m h hop => by simp only [ho, Op.operands] at hop; simp only [evOp, ho, hop x (by simp), e, ofBool, if_true, hop y (by simp)])
    | false => exact .pure q (fun m h hop => by simp only [ho, Op.operands] at hop; simp [evOp, ho, hop x (by simp), e, ofBool, hop z (by simp)])
  · rename_i t ps ho
    simp only [evOp, ho] at q
    split at q
    · rename_i v hv
      exact .pure q (fun m h hop => by simp only [ho, Op.operands] at hop; simp only [evOp, ho, pairs_ev hop, evBuild_sub h hv])
    · cases q
  · rename_i t x ho
    simp only [evOp, ho] at q
    split at q
    · rename_i v hv
      exact .pure q (fun m h hop => by simp only [ho, Op.operands] at hop; simp only [evOp, ho, hop x (by simp), evLoad_sub h hv])
    · cases q
  · rename_i x ho
    simp only [evOp, ho] at q
    split at q <;> first
      | cases q; done
      | (rename_i e
         split at q
         case isFalse => cases q
         rename_i hf
         exact .pure q (fun m h hop => by simp only [ho, Op.operands] at hop; simp only [evOp, ho, hop x (by simp), e, if_pos hf]))
      | (rename_i e
         exact .pure q (fun m h hop => by simp only [ho, Op.operands] at hop; simp only [evOp, ho, hop x (by simp), e]))
  · rename_i op t x y t2 ho
    simp only [evOp, ho] at q
    rw [evBin_bind, Option.bind_eq_some_iff] at q
    obtain ⟨p, q1, q2⟩ := q
    exact .pure q2 (fun m h hop => by simp only [ho, Op.operands] at hop; simp only [evOp, ho, hop x (by simp), hop y (by simp)]; rw [evBin_bind, q1]; rfl)
  · rename_i op t x ho
    simp only [evOp, ho] at q
    rw [evUn_bind, Option.bind_eq_some_iff] at q
    obtain ⟨p, q1, q2⟩ := q
    exact .pure q2 (fun m h hop => by simp only [ho, Op.operands] at hop; simp only [evOp, ho, hop x (by simp)]; rw [evUn_bind, q1]; rfl)
  · rename_i src dst x ho
    simp only [evOp, ho] at q
    obtain ⟨p, q1, q2⟩ := evConv_sub q
    exact .pure q1 (fun m h hop => by simp only [ho, Op.operands] at hop; simp only [evOp, ho, hop x (by simp)]; exact q2 m h _)
  · rename_i fn first caps ho
    cases fn with
    | func f =>
      simp only [evOp, ho] at q
      split at q
      · rename_i hf
        exact .pure q (fun m h hop => by
          simp only [ho, Op.operands] at hop
          have e : caps.toList.map m.ev = caps.toList.map s.ev := List.map_congr_left fun x hx => hop x (by simp only [Array.toList_append]; exact List.mem_append_right _ hx)
          simp only [evOp, ho, if_pos hf, e])
      · cases q
    | _ => simp [evOp, ho] at q
  · rename_i t x f ho
    simp only [evOp, ho] at q
    split at q
    · rename_i fd hfd
      split at q <;> first
        | cases q; done
        | (rename_i e
           exact .pure q (fun m h hop => by simp only [ho, Op.operands] at hop; simp only [evOp, ho, hop x (by simp), e, hfd]))
    · cases q
  · rename_i t x f ho
    simp only [evOp, ho] at q
    split at q
    · rename_i fd cs hfd e
      split at q
      · rename_i v hv
        exact .pure q (fun m h hop => by simp only [ho, Op.operands] at hop; simp only [evOp, ho, hop x (by simp), e, hfd, hv])
      · cases q
    · cases q
  · rename_i t x i ho
    simp only [evOp, ho] at q
    rw [evIndexAddr_bind, Option.bind_eq_some_iff] at q
    obtain ⟨p, q1, q2⟩ := q
    exact .pure q2 (fun m h hop => by simp only [ho, Op.operands] at hop; simp only [evOp, ho, hop x (by simp), hop i (by simp)]; rw [evIndexAddr_bind, evIndexAddr_sub h q1]; rfl)
  · rename_i t x i ho
    simp only [evOp, ho] at q
    rw [evIndex_bind, Option.bind_eq_some_iff] at q
    obtain ⟨p, q1, q2⟩ := q
    exact .pure q2 (fun m h hop => by simp only [ho, Op.operands] at hop; simp only [evOp, ho, hop x (by simp), hop i (by simp)]; rw [evIndex_bind, q1]; rfl)
  · rename_i x i ho
    simp only [evOp, ho] at q
    split at q
    · rename_i vs e
      split at q
      · rename_i v hv
        exact .pure q (fun m h hop => by simp only [ho, Op.operands] at hop; simp only [evOp, ho, hop x (by simp), e, hv])
      · cases q
    · cases q
  · rename_i t x i comma ho
    simp only [evOp, ho] at q
    obtain ⟨p, q1, q2⟩ := evLookup_sub q
    exact .pure q1 (fun m h hop => by
      simp only [ho, Op.operands] at hop
      simp only [evOp, ho, hop x (by simp), hop i (by simp)]
      exact q2 m h _)
  · rename_i t x ho
    simp only [evOp, ho] at q
    split at q
    case isFalse => cases q
    rename_i hk
    rw [Bool.and_eq_true] at hk
    exact .pure q (fun m h hop => by simp only [ho, Op.operands] at hop; simp only [evOp, ho, hop x (by simp), hk.1, known_sub h hk.2, Bool.and_self, if_true])
  · rename_i x xt t comma ho
    simp only [evOp, ho] at q
    split at q
    case h_2 => cases q
    rename_i f p e
    split at q
    case isFalse => cases q
    rename_i hk
    split at q
    · rename_i hc
      exact .pure q (fun m h hop => by simp only [ho, Op.operands] at hop; simp only [evOp, ho, hop x (by simp), e, if_pos hk, if_pos hc])
    · rename_i hc
      exact .pure q (fun m h hop => by simp only [ho, Op.operands] at hop; simp only [evOp, ho, hop x (by simp), e, if_pos hk, if_neg hc])
  · rename_i t x lo hi mx ho
    split at q
    · cases q
    · rename_i hno
      cases mx with
      | none =>
        simp only [evOp, ho] at q
        obtain ⟨p, q1, q2⟩ := evSlice_sub (fun id e => hno id e) q
        exact .pure q1 (fun m h hop => by
          simp only [ho, Op.operands] at hop
          have e1 : lo.map m.ev = lo.map s.ev := by
            cases lo with
            | none => rfl
            | some l => simp only [Option.map_some, hop l (by simp)]
          have e2 : hi.map m.ev = hi.map s.ev := by
            cases hi with
            | none => rfl
            | some l => simp only [Option.map_some, hop l (by simp)]
          simp only [evOp, ho, hop x (by simp), e1, e2]
          exact q2 m _)
      | some mx =>
        cases lo with
        | some _ => simp [evOp, ho] at q
        | none =>
          cases hi with
          | none => simp [evOp, ho] at q
          | some hi =>
            simp only [evOp, ho] at q
            split at q
            · rename_i e k i k' j hu eh em
              split at q
              case isFalse => cases q
              rename_i hsz
              split at q
              case isFalse => cases q
              rename_i hi0
              split at q
              case isFalse => cases q
              rename_i hj0
              unfold evEmpt at q
              split at q
              · rename_i ex
                exact .pure q (fun m h hop => by simp only [ho, Op.operands] at hop; simp only [evOp, ho, hop hi (by simp), hop mx (by simp), hu, eh, em, if_pos hsz, if_pos hi0, if_pos hj0, evEmpt, hop x (by simp), ex])
              · rename_i ex
                exact .pure q (fun m h hop => by simp only [ho, Op.operands] at hop; simp only [evOp, ho, hop hi (by simp), hop mx (by simp), hu, eh, em, if_pos hsz, if_pos hi0, if_pos hj0, evEmpt, hop x (by simp), ex])
              · rename_i ex
                exact .pure q (fun m h hop => by simp only [ho, Op.operands] at hop; simp only [evOp, ho, hop hi (by simp), hop mx (by simp), hu, eh, em, if_pos hsz, if_pos hi0, if_pos hj0, evEmpt, hop x (by simp), ex])
              · rename_i ex
                exact absurd ex (hno _)
              · cases q
            · cases q
  · rename_i t ho
    simp only [evOp, ho] at q
    split at q
    · rename_i d z hd hz
      split at q
      · cases q
      · rename_i hh
        exact .one q (fun m h hop => by simp only [ho, Op.operands] at hop; simp only [evOp, ho, hd, hz, if_neg hh])
    · cases q
  · rename_i t x ho
    simp only [evOp, ho] at q
    split at q
    · cases q
    · rename_i d hd
      split at q
      · rename_i hk
        rw [Bool.and_eq_true] at hk
        exact .one q (fun m h hop => by
          simp only [ho, Op.operands] at hop
          have hk' : (known m.sto (s.ev x) && !holdsL d (cellsOfPV (s.ev x))) = true := by
            rw [known_sub h hk.1, hk.2]
            rfl
          simp only [evOp, ho, hd, hop x (by simp), if_pos hk'])
      · cases q
  · rename_i t l k ho
    simp only [evOp, ho] at q
    split at q
    · rename_i d hd
      unfold evMake at q
      split at q
      · rename_i e τ b kk n kk' n' he el ek
        split at q
        · rename_i z hz
          split at q
          · rename_i x0 hx0
            split at q
            · rename_i c1
              split at q
              · rename_i c2
                split at q
                · rename_i c3
                  split at q
                  · rename_i c5
                    exact .one q (fun m h hop => by simp only [ho, Op.operands] at hop; simp only [evOp, ho, hd, hop l (by simp), hop k (by simp), evMake, he, el, ek, hz, hx0, if_pos c1, if_pos c2, if_pos c3, if_pos c5])
                  · rename_i c5
                    exact .one q (fun m h hop => by simp only [ho, Op.operands] at hop; simp only [evOp, ho, hd, hop l (by simp), hop k (by simp), evMake, he, el, ek, hz, hx0, if_pos c1, if_pos c2, if_pos c3, if_neg c5])
                · cases q
              · cases q
            · rename_i c1
              split at q
              · cases q
              rename_i c0
              split at q
              · rename_i c2
                split at q
                · rename_i c3
                  split at q
                  · rename_i c4
                    exact .one q (fun m h hop => by simp only [ho, Op.operands] at hop; simp only [evOp, ho, hd, hop l (by simp), hop k (by simp), evMake, he, el, ek, hz, hx0, if_neg c1, if_neg c0, if_pos c2, if_pos c3, if_pos c4])
                  · cases q
                · cases q
              · cases q
          · cases q
        · cases q
      · cases q
    · cases q
  · rename_i t n ps ho
    split at q
    · rename_i hids
      simp only [evOp, ho, hids] at q
      split at q
      · rename_i d e τ b hd he
        split at q
        · rename_i hn
          simp only [St.cools] at q
          split at q
          · rename_i l hl
            exact .one q (fun m h hop => by
              simp only [ho, Op.operands] at hop
              have hps : (ps.toList.map fun p => (p.1, m.ev p.2)) = ps.toList.map fun p => (p.1, s.ev p.2) := pairs_ev hop
              have hps2 : (ps.toList.map fun p => m.ev p.2) = ps.toList.map fun p => s.ev p.2 := List.map_congr_left fun p hp => hop p.2 (List.mem_map.2 ⟨p, hp, rfl⟩)
              simp only [evOp, ho, hd, he, if_pos hn, hps2, hids, St.cools, hps, litRow_sub h hl])
          · cases q
        · cases q
      · cases q
    · cases q
  · rename_i cl ho
    have hargs_ : ∀ m : St, (∀ x, x ∈ o.op.operands.toList → m.ev x = s.ev x) → cl.args.toList.map m.ev = cl.args.toList.map s.ev := fun m hop => List.map_congr_left fun x hx => hop x (by simp only [ho, Op.operands, Call.operands, Array.toList_append]; exact List.mem_append_right _ hx)
    split at q
    · rename_i hb
      have key : ∀ x l, (x = .nils ∨ x = .empt) → cl.args.toList.map s.ev = x :: l → evOp P S callT s o (heads K) = some r → Told P S callT s o K r := by
        intro x l hx e q
        simp only [evOp, ho, hb, evBuiltin, e] at q
        split at q
        · cases ‹Builtin.append = _›
        · rename_i t t' x' y _ ht hxy
          cases hxy
          split at q
          · rename_i htt
            unfold evAppend at q
            split at q
            · rename_i e0 τ b he
              rcases hx with rfl | rfl
              · simp only at q
                split at q
                · rename_i mm hm
                  split at q
                  · rename_i hlim
                    exact .one q (fun m h hop => by simp only [evOp, ho, hb, evBuiltin, hargs_ m hop, e, ht, if_pos htt, evAppend, he, contents_sub h hm, if_pos hlim])
                  · cases q
                · cases q
              · simp only at q
                split at q
                · rename_i mm hm
                  split at q
                  · rename_i hlim
                    exact .one q (fun m h hop => by simp only [evOp, ho, hb, evBuiltin, hargs_ m hop, e, ht, if_pos htt, evAppend, he, contents_sub h hm, if_pos hlim])
                  · cases q
                · cases q
            · cases q
          · rename_i htt
            split at q
            case isFalse => cases q
            rename_i hit
            unfold evZeros at q
            split at q
            case h_2 => cases q
            rename_i e0 τ b kk n he
            split at q
            case h_2 => cases q
            rename_i z hz
            split at q
            case h_2 => cases q
            rename_i x0 hx0
            split at q
            case isFalse => cases q
            rename_i hn
            split at q
            case isFalse => cases q
            rename_i hlim
            exact .one q (fun m h hop => by simp only [evOp, ho, hb, evBuiltin, hargs_ m hop, e, ht, if_neg htt, if_pos hit, evZeros, he, hz, hx0, if_pos hn, if_pos hlim])
        · cases ‹Builtin.append = _›
        · cases ‹Builtin.append = _›
        · cases ‹Builtin.append = _›
        · cases ‹Builtin.append = _›
        · cases ‹Builtin.append = _›
        · cases ‹Builtin.append = _›
        · cases q
      split at q
      · rename_i l e
        exact key _ _ (.inl rfl) e q
      · rename_i l e
        exact key _ _ (.inr rfl) e q
      · cases q
    · rename_i b hnot hb
      simp only [evOp, ho, hb] at q
      unfold evBuiltin at q
      split at q
      · rename_i t tl x ht hx
        split at q
        · rename_i n hu hn
          split at q
          · rename_i hs
            exact .pure q (fun m h hop => by simp only [evOp, ho, hb, evBuiltin, hargs_ m hop, ht, hx, hu, lenPV_sub h hn, if_pos hs])
          · cases q
        · rename_i e n hu hn
          split at q
          · cases q
          · rename_i hs
            exact .pure q (fun m h hop => by simp only [evOp, ho, hb, evBuiltin, hargs_ m hop, ht, hx, hu, lenPV_sub h hn, if_neg hs])
        · cases q
      · exact absurd rfl hnot
      · rename_i t tl ht hx
        split at q
        · rename_i e hu
          exact .pure q (fun m h hop => by simp only [evOp, ho, hb, evBuiltin, hargs_ m hop, ht, hx, hu])
        · cases q
      · rename_i t tl ht hx
        split at q
        · rename_i e hu
          exact .pure q (fun m h hop => by simp only [evOp, ho, hb, evBuiltin, hargs_ m hop, ht, hx, hu])
        · cases q
      · rename_i hxy
        exact .pure q (fun m h hop => by simp only [evOp, ho, hb, evBuiltin, hargs_ m hop, hxy])
      · rename_i hxy
        exact .pure q (fun m h hop => by simp only [evOp, ho, hb, evBuiltin, hargs_ m hop, hxy])
      · rename_i hxy
        exact .pure q (fun m h hop => by simp only [evOp, ho, hb, evBuiltin, hargs_ m hop, hxy])
      · rename_i hxy
        exact .pure q (fun m h hop => by simp only [evOp, ho, hb, evBuiltin, hargs_ m hop, hxy])
      · cases q
    · rename_i x hx
      split at q
      · rename_i f caps ef
        split at q
        case isFalse => cases q
        rename_i hblt
        split at q
        · rename_i fn hnat
          simp only [evOp, ho, hx, ef, if_pos hblt, hnat] at q
          split at q
          case h_2 => cases q
          obtain ⟨p, h1, h2⟩ := evNat_way' q
          exact .pure h1 (fun m h hop => by
            have hargs := hargs_ m hop
            have hxv : m.ev x = s.ev x := hop x (by simp [ho, Op.operands, Call.operands, hx])
            simp only [evOp, ho, hx, hxv, ef, if_pos hblt, hnat, hargs, h2])
        rename_i hnat
        split at q
        · rename_i k ts hlib
          split at q
          case isFalse => cases q
          rename_i hpk
          simp only [evOp, ho, hx, ef, if_pos hblt, hnat, hlib, if_pos hpk] at q
          split at q
          case h_2 => cases q
          obtain ⟨p, h1, h2⟩ := evPure_sub q
          exact .pure h1 (fun m h hop => by
            have hargs := hargs_ m hop
            have hxv : m.ev x = s.ev x := hop x (by simp [ho, Op.operands, Call.operands, hx])
            simp only [evOp, ho, hx, hxv, ef, if_pos hblt, hnat, hlib, if_pos hpk, hargs, h2 m h])
        rename_i hnl
        split at q
        · rename_i g fn hg hfn
          split at q
          · cases q
          rename_i hla
          obtain ⟨p, nb, q1, q2, q3⟩ := callD_spec q
          refine ⟨p, nb, q1, fun m h hop hc => ?_⟩
          have hargs := hargs_ m hop
          have hxv : m.ev x = s.ev x := hop x (by simp [ho, Op.operands, Call.operands, hx])
          cases hl : g.res.lends with
          | false => simp [evOp, ho, hx, hxv, ef, show f < 1000000 by simpa using hblt, hnat, hnl, hg, hfn, hla, hl, hargs, q3 m h hc]
          | true =>
            have hno : ownIdsL (cl.args.toList.map s.ev ++ caps) = [] := by
              have := q2 hl
              exact noOwn this
            simp [evOp, ho, hx, hxv, ef, show f < 1000000 by simpa using hblt, hnat, hnl, hg, hfn, hla, hl, hargs, hno, St.cools, q3 m h hc]
        · cases q
      · cases q
    · cases q
  · cases q
theorem evOpD0_spec {K : PV → List (Nat × Blk) → Option R} (q : evOpD0 P S callT s o K = some r) :
    ∃ p nb, K p nb = some r ∧ ∀ m, Sub s m → (∀ l, l ∈ nb.map (·.1) → Clean l m) → evOp P S callT m o (fun p s' => some (p, s')) = some (p, ⟨m.env, nb ++ m.sto⟩) := by
  obtain ⟨p, nb, h1, h2⟩ := evOpD0_spec_ q
  refine ⟨p, nb, h1, fun m h hc => h2 m h (fun x hx => ?_) hc⟩
  unfold evOpD0 at q
  split at q
  · rename_i hsol
    exact h.ev (List.all_eq_true.1 hsol x hx)
  · cases q
theorem holdsB_set {id d : Nat} {e e' : TypeId} {t : Ty} {x : List (List t.den)} {o : Option Int} : ∀ {l : List (Nat × Blk)}, holdsB d l = false → holdsB d (setb id (.deep e e' t x o) l) = false
  | [], h => h
  | (j, b) :: r, h => by
    have hr : holdsB d r = false := by
      cases b <;> simp only [holdsB, Bool.or_eq_false_iff] at h <;> first | exact h.2 | exact h
    rw [setb]
    split
    · rw [holdsB]
      exact hr
    · cases b <;> simp only [holdsB, Bool.or_eq_false_iff] at h ⊢ <;> first | exact ⟨h.1, holdsB_set hr⟩ | exact holdsB_set hr
theorem subArg_some {id : Nat} (h : subArg s o = some id) : ∃ c i l, o.op = .call c ∧ c.callee = .builtin .append ∧ c.args.toList.map s.ev = .sub id i :: l := by
  unfold subArg at h
  split at h
  · rename_i c ho
    split at h
    · rename_i hb ha
      cases h
      exact ⟨c, _, _, ho, hb, ha⟩
    · cases h
  · cases h
theorem ownArg_some {id : Nat} (h : ownArg s o = some id) : (∃ c l, o.op = .call c ∧ c.callee = .builtin .append ∧ c.args.toList.map s.ev = .own id :: l) ∨ ∃ t x hi, o.op = .slice t x none hi none ∧ s.ev x = .own id := by
  unfold ownArg at h
  split at h
  · rename_i c ho
    split at h
    · rename_i hb ha
      cases h
      exact .inl ⟨c, _, ho, hb, ha⟩
    · cases h
  · rename_i t x hi ho
    split at h
    · rename_i hx
      cases h
      exact .inr ⟨t, x, hi, ho, hx⟩
    · cases h
  · cases h
theorem holdsB_dropb {d id : Nat} : ∀ {l : List (Nat × Blk)}, holdsB d l = false → holdsB d (dropb id l) = false
  | [], h => h
  | (j, b) :: r, h => by
    have hr : holdsB d r = false := by
      cases b <;> simp only [holdsB, Bool.or_eq_false_iff] at h <;> first | exact h.2 | exact h
    rw [dropb]
    split
    · exact holdsB_dropb hr
    · cases b <;> simp only [holdsB, Bool.or_eq_false_iff] at h ⊢ <;> first | exact ⟨h.1, holdsB_dropb hr⟩ | exact holdsB_dropb hr
theorem evOpD_own {id d : Nat} (hown : ownArg s o = some id) (hdst : o.dst = some d) {K : PV → List (Nat × Blk) → List Nat → Option R} (q : (if (opsSolid s o && !Nat.beq d id) = true then evOp P S callT s o (heads1 d id K) else none) = some r) :
    ∃ p nb us, K p nb us = some r ∧ (∀ l, l ∈ us → (look l s.sto).isSome = true) ∧ ∀ m, Sub s m → (∀ l, l ∈ nb.map (·.1) → l ∉ us → Clean l m) → ∃ sto', (∀ j, look j sto' = look j (nb ++ dropL (us.filter fun k => !memN k (nb.map (·.1))) m.sto)) ∧ evOp P S callT m o (fun p s' => some (p, s')) = some (p, ⟨m.env, sto'⟩) := by
  split at q
  case isFalse => cases q
  rename_i hcond
  rw [Bool.and_eq_true] at hcond
  obtain ⟨hsol, hdi0⟩ := hcond
  have hdi : d ≠ id := fun e => by rw [e] at hdi0; simp at hdi0
  rcases ownArg_some hown with ⟨cl, l', ho, hb, ha⟩ | ⟨t, x, hi, ho, hx⟩
  case inr =>
    have hsx : ∀ m : St, Sub s m → m.ev x = .own id := fun m h => (h.ev (List.all_eq_true.1 hsol x (by simp [ho, Op.operands]))).trans hx
    have hsh : ∀ m : St, Sub s m → hi.map m.ev = hi.map s.ev := fun m h => by
      cases hi with
      | none => rfl
      | some y => simp only [Option.map_some, h.ev (List.all_eq_true.1 hsol y (by simp [ho, Op.operands]))]
    simp only [evOp, ho, hx, hdst, Option.getD_some, Option.map_none] at q
    unfold evSlice at q
    split at q
    · cases q
    · rename_i e' hu
      simp only at q
      split at q
      · rename_i e τ l hl hlo
        split at q
        case isFalse => cases q
        rename_i hst
        obtain ⟨y, q, b1⟩ := bound_both q
        unfold heads1 at q
        have k1 : look d (St.add ⟨s.env, dropb id s.sto⟩ d (.row e τ (l.take y.toNat))).sto = some (.row e τ (l.take y.toNat)) := look_cons_same _ _ _
        rw [k1] at q
        refine ⟨_, _, _, q, fun j hj => ?_, fun m h hcl => ?_⟩
        · rw [List.mem_singleton.1 hj, hl]
          rfl
        have hcd : Clean d m := hcl d (by simp) (by simpa using hdi)
        have hcd2 : Clean d ⟨m.env, dropb id m.sto⟩ := ⟨hcd.env, holdsB_dropb hcd.sto, by
          show look d (dropb id m.sto) = none
          rw [look_dropb, if_neg hdi]
          exact hcd.no⟩
        refine ⟨(d, .row e τ (l.take y.toNat)) :: dropb id m.sto, fun j => ?_, ?_⟩
        · have hb2 : Nat.beq d id = false := Bool.eq_false_iff.2 (fun q => hdi (Nat.eq_of_beq_eq_true q))
          have hm' : memN id [d] = false := by
            rw [memN, memN, hb2]
            rfl
          have hgone : ([id].filter fun k => !memN k ([(d, Blk.row e τ (l.take y.toNat))].map (·.1))) = [id] := by
            show ([id].filter fun k => !memN k [d]) = [id]
            rw [List.filter_cons_of_pos (by rw [hm']; rfl)]
            rfl
          rw [hgone]
          rfl
        · have hop : St.add ⟨m.env, dropb id m.sto⟩ d (.row e τ (l.take y.toNat)) = ⟨m.env, (d, .row e τ (l.take y.toNat)) :: dropb id m.sto⟩ := hcd2.add _
          simp only [evOp, ho, hsx m h, hsh m h, hdst, Option.getD_some, Option.map_none, evSlice, hu, h.sto _ _ hl, if_pos hst, b1, hop]
      · rename_i hlo
        cases hlo
      · cases q
    · cases q
  have hargs_ : ∀ m : St, Sub s m → cl.args.toList.map m.ev = cl.args.toList.map s.ev := fun m h => List.map_congr_left fun x hx => h.ev (List.all_eq_true.1 hsol x (by simp only [ho, Op.operands, Call.operands, Array.toList_append]; exact List.mem_append_right _ hx))
  simp only [evOp, ho, hb, evBuiltin, ha, hdst, Option.getD_some] at q
  split at q
  · cases ‹Builtin.append = _›
  · rename_i t t' x' y _ ht hxy
    cases hxy
    split at q
    case isFalse =>
      split at q
      · unfold evZeros at q
        split at q
        · rename_i _ hnil
          cases hnil
        · cases q
      · cases q
    rename_i htt
    unfold evAppend at q
    split at q
    case h_2 => cases q
    rename_i e0 τ b he
    simp only at q
    split at q
    case h_2 => cases q
    rename_i l0 mm hl0 hm
    split at q
    case isFalse => cases q
    rename_i hnd
    split at q
    case isFalse => cases q
    rename_i hlim
    have hrow : ∃ e1 t1 l1, look id s.sto = some (.row e1 t1 l1) := by
      unfold contents at hl0
      simp only at hl0
      split at hl0
      · rename_i e1 t1 l1 hl
        exact ⟨e1, t1, l1, hl⟩
      · cases hl0
    obtain ⟨e1, t1, l1, hl⟩ := hrow
    unfold heads1 at q
    have k1 : look d (St.add ⟨s.env, dropb id s.sto⟩ d (.row e0 τ (l0 ++ mm))).sto = some (.row e0 τ (l0 ++ mm)) := look_cons_same _ _ _
    rw [k1] at q
    refine ⟨_, _, _, q, fun j hj => ?_, fun m h hcl => ?_⟩
    · rw [List.mem_singleton.1 hj, hl]
      rfl
    have hcd : Clean d m := hcl d (by simp) (by simpa using hdi)
    have hcd2 : Clean d ⟨m.env, dropb id m.sto⟩ := ⟨hcd.env, holdsB_dropb hcd.sto, by
      show look d (dropb id m.sto) = none
      rw [look_dropb, if_neg hdi]
      exact hcd.no⟩
    have hsub2 : Sub ⟨s.env, dropb id s.sto⟩ ⟨m.env, dropb id m.sto⟩ := ⟨h.env, fun j b hj => by
      have hj' := look_drop id _ j b hj
      show look j (dropb id m.sto) = some b
      rw [look_dropb, if_neg hj'.1]
      exact h.sto j b hj'.2⟩
    refine ⟨(d, .row e0 τ (l0 ++ mm)) :: dropb id m.sto, fun j => ?_, ?_⟩
    · have hgone : ([id].filter fun k => !memN k ([(d, Blk.row e0 τ (l0 ++ mm))].map (·.1))) = [id] := by
        have hb2 : Nat.beq d id = false := Bool.eq_false_iff.2 (fun q => hdi (Nat.eq_of_beq_eq_true q))
        have hm' : memN id [d] = false := by
          rw [memN, memN, hb2]
          rfl
        show ([id].filter fun k => !memN k [d]) = [id]
        rw [List.filter_cons_of_pos (by rw [hm']; rfl)]
        rfl
      rw [hgone]
      rfl
    · have hop : St.add ⟨m.env, dropb id m.sto⟩ d (.row e0 τ (l0 ++ mm)) = ⟨m.env, (d, .row e0 τ (l0 ++ mm)) :: dropb id m.sto⟩ := hcd2.add _
      simp only [evOp, ho, hb, evBuiltin, hargs_ m h, ha, hdst, Option.getD_some, ht, if_pos htt, evAppend, he, contents_sub h hl0, contents_sub hsub2 hm, if_pos hnd, if_pos hlim, hop]
  · cases ‹Builtin.append = _›
  · cases ‹Builtin.append = _›
  · cases ‹Builtin.append = _›
  · cases ‹Builtin.append = _›
  · cases ‹Builtin.append = _›
  · cases ‹Builtin.append = _›
  · cases q
/-- What an operation of a longer part comes to. -/
theorem evOpD_spec {K : PV → List (Nat × Blk) → List Nat → Option R} (q : evOpD P S callT s o K = some r) :
    ∃ p nb us, K p nb us = some r ∧ (∀ l, l ∈ us → (look l s.sto).isSome = true) ∧ ∀ m, Sub s m → (∀ l, l ∈ nb.map (·.1) → l ∉ us → Clean l m) → ∃ sto', (∀ j, look j sto' = look j (nb ++ dropL (us.filter fun k => !memN k (nb.map (·.1))) m.sto)) ∧ evOp P S callT m o (fun p s' => some (p, s')) = some (p, ⟨m.env, sto'⟩) := by
  unfold evOpD at q
  split at q
  case h_2 =>
    split at q
    · rename_i id d hown hdst
      exact evOpD_own hown hdst q
    obtain ⟨p, nb, h1, h2⟩ := evOpD0_spec q
    refine ⟨p, nb, [], h1, ?_, ?_⟩
    · intro l hl
      cases hl
    · intro m h hc
      exact ⟨_, fun _ => rfl, h2 m h (fun l hl => hc l hl (by simp))⟩
  rename_i id d hsub hdst
  split at q
  case isFalse => cases q
  rename_i hsol
  obtain ⟨cl, i, l', ho, hb, ha⟩ := subArg_some hsub
  have hargs_ : ∀ m : St, Sub s m → cl.args.toList.map m.ev = cl.args.toList.map s.ev := fun m h => List.map_congr_left fun x hx => h.ev (List.all_eq_true.1 hsol x (by simp only [ho, Op.operands, Call.operands, Array.toList_append]; exact List.mem_append_right _ hx))
  simp only [evOp, ho, hb, evBuiltin, ha, hdst, Option.getD_some] at q
  split at q
  · cases ‹Builtin.append = _›
  · rename_i t t' x' y _ ht hxy
    cases hxy
    split at q
    case isFalse =>
      split at q
      · unfold evZeros at q
        split at q
        · rename_i _ hnil
          cases hnil
        · cases q
      · cases q
    rename_i htt
    unfold evAppend at q
    split at q
    case h_2 => cases q
    rename_i e0 τ b he
    simp only at q
    split at q
    case h_2 => cases q
    rename_i e1 e' τ' l hl
    split at q
    case h_2 => cases q
    rename_i l0 mm hl0 hm
    split at q
    case isFalse => cases q
    rename_i hc
    split at q
    case isFalse => cases q
    rename_i hlim
    have hdi : d ≠ id := by
      rw [Bool.and_eq_true] at hc
      intro e
      rw [e] at hc
      simp at hc
    unfold heads2 at q
    have k1 : look d (s.opened d id (.row e0 τ (l0 ++ mm)) (.deep e1 e' τ' l (some i))).sto = some (.row e0 τ (l0 ++ mm)) := look_cons_same _ _ _
    have k2 : look id (s.opened d id (.row e0 τ (l0 ++ mm)) (.deep e1 e' τ' l (some i))).sto = some (.deep e1 e' τ' l (some i)) := by
      show look id ((d, _) :: dropb d (forgetB d (setb id (.deep e1 e' τ' l (some i)) s.sto))) = _
      rw [look_cons_ne _ _ hdi, look_dropb, if_neg (fun e => hdi e.symm), look_forgetB, look_set, if_pos rfl, hl]
      rfl
    rw [k1, k2] at q
    refine ⟨_, _, _, q, fun j hj => ?_, fun m h hcl => ?_⟩
    · rw [List.mem_singleton.1 hj, hl]
      rfl
    have hcd : Clean d m := hcl d (by simp) (by simpa using hdi)
    have hcd2 : Clean d { m with sto := setb id (.deep e1 e' τ' l (some i)) m.sto } := ⟨hcd.env, holdsB_set hcd.sto, by
      show look d (setb id _ m.sto) = none
      rw [look_set, if_neg hdi]
      exact hcd.no⟩
    have hop : m.opened d id (.row e0 τ (l0 ++ mm)) (.deep e1 e' τ' l (some i)) = ⟨m.env, (d, .row e0 τ (l0 ++ mm)) :: setb id (.deep e1 e' τ' l (some i)) m.sto⟩ := by
      unfold St.opened
      rw [hcd2.add]
    refine ⟨(d, .row e0 τ (l0 ++ mm)) :: setb id (.deep e1 e' τ' l (some i)) m.sto, fun j => ?_, ?_⟩
    · have hgone : ([id].filter fun k => !memN k ([(d, Blk.row e0 τ (l0 ++ mm)), (id, Blk.deep e1 e' τ' l (some i))].map (·.1))) = [] := by simp [memN]
      rw [hgone, dropL]
      by_cases e : d = j
      · rw [e, look_cons_same]
        show _ = look j ((j, _) :: _)
        rw [look_cons_same]
      · rw [look_cons_ne _ _ e]
        show _ = look j ((d, _) :: (id, _) :: m.sto)
        rw [look_cons_ne _ _ e, look_set]
        by_cases e2 : id = j
        · rw [if_pos e2.symm, h.sto _ _ hl, e2, look_cons_same]
          rfl
        · rw [if_neg (fun q => e2 q.symm), look_cons_ne _ _ e2]
    · simp only [evOp, ho, hb, evBuiltin, hargs_ m h, ha, hdst, Option.getD_some, ht, if_pos htt, evAppend, he, h.sto _ _ hl, hl0, contents_sub h hm, if_pos hc, if_pos hlim, hop]
  · cases ‹Builtin.append = _›
  · cases ‹Builtin.append = _›
  · cases ‹Builtin.append = _›
  · cases ‹Builtin.append = _›
  · cases ‹Builtin.append = _›
  · cases ‹Builtin.append = _›
  · cases q
theorem solids_sub (h : Sub s m) : ∀ {l : List PV}, solids s.sto l = true → solids m.sto l = true
  | [], _ => rfl
  | x :: l, q => by
    rw [solids, Bool.and_eq_true] at q
    rw [solids, Bool.and_eq_true]
    refine ⟨?_, solids_sub h q.2⟩
    have q1 := q.1
    cases x <;> simp only [solid] at q1 ⊢ <;> first
      | exact q1
      | (rw [h.isSome (isRowB_some q1)]; exact q1)
      | (rw [h.isSome (isDeepB_some q1)]; exact q1)
theorem evStD_spec {t : TypeId} {a x : Operand} (ho : o.op = .store t a x) {K : List (Nat × Blk) → Option R} (q : evStD P s o t a x K = some r) :
    ∃ lab b, K [(lab, b)] = some r ∧ (look lab s.sto).isSome = true ∧ ∀ m, Sub s m → evOp P S callT m o (fun p s' => some (p, s')) = some (.undef, ⟨m.env, setb lab b m.sto⟩) := by
  unfold evStD at q
  split at q
  case isFalse => cases q
  rename_i hsol
  have hop : ∀ m, Sub s m → ∀ y, y ∈ o.op.operands.toList → m.ev y = s.ev y := fun m h y hy => h.ev (List.all_eq_true.1 hsol y hy)
  split at q
  case h_3 => cases q
  · rename_i id off ha
    unfold evStore at q
    split at q
    · cases q
    · rename_i n hn
      split at q
      case isFalse => cases q
      rename_i hc
      simp only at q
      split at q
      case h_2 => cases q
      rename_i t0 cs hl
      split at q
      case isFalse => cases q
      rename_i hb
      rw [look_set, if_pos rfl, hl, Option.map_some] at q
      simp only at q
      refine ⟨id, _, q, by rw [hl]; rfl, fun m h => ?_⟩
      have e1 := hop m h a (by simp [ho, Op.operands])
      have e2 := hop m h x (by simp [ho, Op.operands])
      rw [Bool.and_eq_true] at hc
      have hc' : (Nat.beq (cellsOfPV (s.ev x)).length n && solids m.sto (cellsOfPV (s.ev x))) = true := by
        rw [hc.1, solids_sub h hc.2]
        rfl
      have est : stSt m a x = m := by
        unfold stSt
        rw [e1, ha]
        rfl
      simp only [evOp, ho, est, e1, e2, ha, evStore, hn, if_pos hc', h.sto _ _ hl, if_pos hb]
  · rename_i id z i off ha
    split at q
    case h_2 => cases q
    rename_i hids
    unfold evStore at q
    split at q
    · cases q
    · rename_i n hn
      split at q
      case isFalse => cases q
      rename_i hc
      simp only at q
      split at q
      case h_2 => cases q
      rename_i e τ l hl
      split at q
      case isFalse => cases q
      rename_i hz
      split at q
      case h_2 => cases q
      rename_i y hy
      rw [look_set, if_pos rfl, hl, Option.map_some] at q
      simp only at q
      refine ⟨id, _, q, by rw [hl]; rfl, fun m h => ?_⟩
      have e1 := hop m h a (by simp [ho, Op.operands])
      have e2 := hop m h x (by simp [ho, Op.operands])
      rw [Bool.and_eq_true] at hc
      have hc' : (Nat.beq (cellsOfPV (s.ev x)).length n && solids m.sto (cellsOfPV (s.ev x))) = true := by
        rw [hc.1, solids_sub h hc.2]
        rfl
      have est : stSt m a x = m := by
        unfold stSt
        rw [e1, e2, ha, hids]
        rfl
      simp only [evOp, ho, est, e1, e2, ha, evStore, hn, if_pos hc', h.sto _ _ hl, if_pos hz, hy]
end
end Go.Proofs.Ytbaekdcacmoniaa.Pv
