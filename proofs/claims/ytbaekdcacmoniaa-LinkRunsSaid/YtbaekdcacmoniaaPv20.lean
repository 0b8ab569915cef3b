/- Calls by the machine, with a count of rounds: sound. -/
import Derived.Test.YtbaekdcacmoniaaPv19
namespace Go.Proofs.Ytbaekdcacmoniaa.Pv
open Go Go.RowKit

section
variable {W0 : World} {P : Program} {S : List (FuncId × FSig)}
theorem nth_app : ∀ (l m : List PV) (t : Nat), nth (l ++ m) t = if t < l.length then nth l t else nth m (t - l.length)
  | [], m, t => by simp
  | x :: l, m, 0 => by simp [nth]
  | x :: l, m, t + 1 => by
    rw [List.cons_append, nth, nth, nth_app l m t, List.length_cons]
    by_cases h : t < l.length
    · rw [if_pos h, if_pos (by omega)]
    · rw [if_neg h, if_neg (by omega), Nat.add_sub_add_right]
theorem nth_repl : ∀ (n t : Nat), nth (List.replicate n PV.undef) t = .undef
  | 0, t => by cases t <;> rfl
  | n + 1, 0 => rfl
  | n + 1, t + 1 => by
    rw [List.replicate_succ, nth]
    exact nth_repl n t
theorem begin_rel {w : World} {own F L : Nat → Prop} {dis : ∀ g, F g → ¬ L g} {pin : Option (Nat × Value)} {st : Beneath (fun _ => False) W0 w} {low : ∀ g, L g → W0.heap.size ≤ g} (hO : ∀ g, own g → g < w.heap.size) (hF : ∀ g, F g → own g) {args : List PV} {vs : List Value} (hv : VRs (fun _ => undef) own w args vs) (n : Nat) (hp : ∀ i v, pin = some (i, v) → nth args i = .undef) :
    RelX (fun _ => undef) own (⟨w, F, L, dis, pin, st, low⟩ : Cx W0) ⟨args ++ List.replicate (n - args.length) .undef, []⟩ { tmps := vs.toArray ++ Array.replicate (n - vs.toArray.size) undef, defers := [] } w := by
  have hl := hv.len
  refine ⟨?_, fun t => ?_, fun id b h => (by cases h), fun i j x y g h => (by cases h), fun id b g h => (by cases h), hO, hF, fun g q => hO g (hF g q), Beneath.refl _ _, rfl, fun i v hq hi => ?_⟩
  · simp [hl]
  · show VR _ _ _ (nth (args ++ _) t) _
    rw [nth_app]
    split
    · rename_i ht
      have := hv.nth t
      have e : (vs.toArray ++ Array.replicate (n - vs.toArray.size) undef).getD t undef = vs.getD t undef := by
        rw [Array.getD_eq_getD_getElem?, Array.getElem?_append_left (by simp; omega), List.getElem?_toArray, List.getD_eq_getElem?_getD]
      rw [e]
      exact this
    · rw [nth_repl, VR]
      trivial
  · have hi' : pinAt i (nth (args ++ List.replicate (n - args.length) .undef) i) = true := hi
    rw [nth_app] at hi'
    split at hi'
    · rw [hp i v hq] at hi'
      cases hi'
    · rw [nth_repl] at hi'
      cases hi'
theorem RelX.startG {ρ : Nat → Value} {own : Nat → Prop} {c : Cx W0} {a : Act} {w : World} {par : List Par} {args : List PV} {s1 s0 : St} (h : RelX ρ own c s1 a w) (hs : startG par args s1 = some s0)
    (hg : ∀ j e τ, guestAt par = some (j, e, τ) → ∃ l, nth args j = .row e τ l ∧ RowR own w (a.tmps.getD j undef) e τ l ∧ ∀ q, q ∈ blks (a.tmps.getD j undef) → c.F q)
    (hd : ∀ id b q, look id s1.sto = some b → q ∈ blks (ρ id) → ¬ c.F q) : ∃ ρ', RelX ρ' own c s0 a w := by
  unfold Pv.startG at hs
  split at hs
  · cases hs
    exact ⟨ρ, h⟩
  · rename_i j e τ hga
    obtain ⟨l, hl, hrow, hF⟩ := hg j e τ hga
    rw [hl] at hs
    have hself : sameRow e τ e τ l = some l := by
      unfold sameRow
      simp
    have hs' : ((sameRow e τ e τ l).map fun l => (s1.add (gstL j) (.row e τ l)).puto (some j) (.own (gstL j))) = some s0 := hs
    rw [hself] at hs'
    cases hs'
    have hag : isAggV (a.tmps.getD j undef) = false := by
      rcases hrow with ⟨⟨A, e1⟩, _⟩ | ⟨g, k, vs, e1, _⟩ <;> (rw [e1]; rfl)
    have hadd := h.addG (gstL j) (a.tmps.getD j undef) (.row e τ l) (Agree.refl _ _) h.below (fun _ _ q => q) (fun j x q _ hj hq => ⟨rfl, (h.owned j x q hj hq).1⟩) h.lo h.base (fun i x q _ hi hq k => hd i x q hi hq (hF q k))
      (fun q k => ⟨h.base q (hF q k), .inr (.inr ⟨Nat.ble_eq_true_of_le (Nat.le_add_right _ _), rfl, hF q k⟩)⟩) (by show RowR own w (upd ρ (gstL j) _ (gstL j)) e τ l; rw [upd_same]; exact hrow)
    exact ⟨_, hadd.same (by rw [VR]; exact ⟨(upd_same _ _ _).symm, hag⟩)⟩
/-- A call that was lent a box begins. -/
theorem begin_lent {w : World} {own F : Nat → Prop} {par : List Par} {args : List PV} {vs : List Value} {n i g : Nat} {b : TypeId} {t : Ty} {x : t.den} {gs : List Nat} {us : Array Value} {s0 : St} (hst : Beneath (fun _ => False) W0 w) (hlow : ∀ q, (q = g ∨ q ∈ gs) → W0.heap.size ≤ q) (hla : lentAt par = some (i, b, t)) (ha : nth args i = .cref (cells t x) 0) (hs : startS par args n = some s0) (hL : Lend own F w (boxT b) t x g gs us)
    (hv : VRs (fun _ => undef) own w (blankG par (put args i .undef)) vs) (hgu : GuestR par own F w args vs) (hg : vs.getD i undef = lentV b (.pointer (some ⟨g, 0, none⟩))) :
    ∃ ρ, RelX ρ own ⟨w, F, fun q => q = g ∨ q ∈ gs, fun q h k => k.elim (hL.sub q h).2.1 (hL.sub q h).2.2, some (i, lentV b (.pointer (some ⟨g, 0, none⟩))), hst, hlow⟩ s0 { tmps := vs.toArray ++ Array.replicate (n - vs.toArray.size) undef, defers := [] } w := by
  unfold startS at hs
  rw [hla] at hs
  simp only [ha] at hs
  have hu := uncells_cells t x []
  rw [List.append_nil] at hu
  rw [hu] at hs
  simp only at hs
  have hlt : i < args.length := by
    rcases Nat.lt_or_ge i args.length with q | q
    · exact q
    · rw [nth_out _ _ q] at ha
      cases ha
  have h0 := begin_rel (L := fun q => q = g ∨ q ∈ gs) (dis := fun q h k => k.elim (hL.sub q h).2.1 (hL.sub q h).2.2) (pin := some (i, lentV b (.pointer (some ⟨g, 0, none⟩)))) (st := hst) (low := hlow) hL.lo (fun q h => (hL.sub q h).1) hv n (fun j v hj => by
    cases hj
    unfold blankG
    split
    · rw [nth_put, if_pos ⟨rfl, hlt⟩]
    · rw [nth_put]
      split
      · rfl
      · rw [nth_put, if_pos ⟨rfl, hlt⟩])
  rw [len_blankG, len_put] at h0
  obtain ⟨cs', m, s', ρ', hs, laid⟩ := resCells_sound hs h0 hL.res (fun q k => ⟨hL.rows q k, .inr (.inr k)⟩) hL.nodup (fun j y q hj => by cases hj)
  have hblk : ∀ j y q, look j s'.sto = some y → q ∈ blks (ρ' j) → q ∈ gs := by
    intro j y q hj hq
    rcases laid.blocks j y q hj hq with k | ⟨j0, x0, k, _⟩
    · exact k
    · cases k
  have hadd := laid.rel.addL (pinL i) (.pointer (some ⟨g, 0, none⟩)) (.box (boxT b) cs') (Agree.refl _ _) laid.rel.below (fun _ _ q => q) (fun j y q _ hj hq => ⟨rfl, (laid.rel.owned j y q hj hq).1⟩) laid.rel.lo laid.rel.base (fun j y q _ hj hq k => by
    rw [List.mem_singleton.1 k] at hq
    exact hL.new (hblk j y g hj hq)) (fun q k => by
    rw [List.mem_singleton.1 k]
    exact ⟨hL.box, .inr (.inl rfl)⟩) ⟨g, us, upd_same _ _ _, hL.heap, VRs.move (Agree.refl _ _) (fun _ _ q => q) (fun j hj => upd_ne _ _ (by have := (laid.holds j hj).1; omega)) laid.vals⟩
  have hbox : RelX (upd ρ' (pinL i) (.pointer (some ⟨g, 0, none⟩))) own ⟨w, F, fun q => q = g ∨ q ∈ gs, fun q h k => k.elim (hL.sub q h).2.1 (hL.sub q h).2.2, some (i, lentV b (.pointer (some ⟨g, 0, none⟩))), hst, hlow⟩ (⟨put (s'.add (pinL i) (.box (boxT b) cs')).env i (lentP b (.ref (pinL i) 0)), (s'.add (pinL i) (.box (boxT b) cs')).sto⟩ : St) { tmps := vs.toArray ++ Array.replicate (n - vs.toArray.size) undef, defers := [] } w := by
    refine ⟨?_, fun j => ?_, hadd.sto, hadd.apart, hadd.owned, hadd.lo, hadd.base, hadd.fr, hadd.below, hadd.defers, fun j v hj hi => ?_⟩
    · show (put _ _ _).length = _
      rw [len_put]
      exact hadd.len
    · show VR _ _ _ (nth (put _ _ _) j) _
      rw [nth_put]
      split
      · rename_i e
        rw [e.1]
        have hl : i < vs.length := by
          have := hv.len
          rw [len_blankG, len_put] at this
          omega
        have hgv : (vs.toArray ++ Array.replicate (n - vs.toArray.size) undef).getD i undef = lentV b (.pointer (some ⟨g, 0, none⟩)) := by
          rw [Array.getD_eq_getD_getElem?, Array.getElem?_append_left (by simpa using hl), List.getElem?_toArray, ← List.getD_eq_getElem?_getD]
          exact hg
        rw [show (({ tmps := vs.toArray ++ Array.replicate (n - vs.toArray.size) undef, defers := [] } : Act).tmps.getD i undef) = _ from hgv]
        exact lentP_sound (upd_same _ _ _)
      · exact hadd.env j
    · cases hj
      show (vs.toArray ++ Array.replicate (n - vs.toArray.size) undef).getD i undef = _
      have hl : i < vs.length := by
        have := hv.len
        rw [len_blankG, len_put] at this
        omega
      rw [Array.getD_eq_getD_getElem?, Array.getElem?_append_left (by simpa using hl), List.getElem?_toArray, ← List.getD_eq_getElem?_getD]
      exact hg
  refine hbox.startG hs (fun j e τ hga => ?_) (fun id bk q hid hq k => ?_)
  · obtain ⟨l, h1, h2, h3⟩ := hgu j e τ hga
    have hjl : j < vs.length := by
      have := hv.len
      rw [len_blankG, len_put] at this
      rcases Nat.lt_or_ge j args.length with q | q
      · omega
      · rw [nth_out _ _ q] at h1
        cases h1
    have ej : (vs.toArray ++ Array.replicate (n - vs.toArray.size) undef).getD j undef = vs.getD j undef := by
      rw [Array.getD_eq_getD_getElem?, Array.getElem?_append_left (by simpa using hjl), List.getElem?_toArray, ← List.getD_eq_getElem?_getD]
    refine ⟨l, h1, ?_, ?_⟩
    · show RowR own w ((vs.toArray ++ Array.replicate (n - vs.toArray.size) undef).getD j undef) e τ l
      rw [ej]
      exact h2
    · intro q hq
      have hq' : q ∈ blks ((vs.toArray ++ Array.replicate (n - vs.toArray.size) undef).getD j undef) := hq
      rw [ej] at hq'
      exact h3 q hq'
  · have hid' : look id ((pinL i, .box (boxT b) cs') :: (s'.used (pinL i)).sto) = some bk := hid
    by_cases e : pinL i = id
    · subst e
      rw [upd_same] at hq
      exact (hL.sub q k).2.1 (List.mem_singleton.1 hq)
    · rw [look_cons_ne _ _ e] at hid'
      have z := look_drop (pinL i) _ id bk hid'
      obtain ⟨b0, z0, _⟩ := look_forget (pinL i) s'.sto id bk z.2
      rw [upd_ne _ _ z.1] at hq
      exact (hL.sub q k).2.2 (hblk id b0 q z0 hq)
theorem calls_of_fin {f : FuncId} {fn : Func} {co : Code} (hf : P.funcs[f]? = some fn) (hb : fn.body = some co) {args : Array Value} {w : World} {Q : Ending → World → Prop}
    (h : ∀ (b : Frame) (cs : List Frame), ∃ a' w' todo v, a'.defers = [] ∧ Steps P (lone (b.at { tmps := args ++ Array.replicate (fn.ntmps - args.size) undef, defers := [] } [.code co]) cs w) (lone { b.at a' todo with mode := .returning } cs w') ∧ (results fn a'.tmps).run P w' = .ok v w' ∧ Q (.returned v) w') : Calls P f args w Q := by
  intro cs
  let b : Frame := { (default : Frame) with fn := f, kind := .normal }
  have henter : Frame.enter P f args .normal = b.at { tmps := args ++ Array.replicate (fn.ntmps - args.size) undef, defers := [] } [.code co] := by
    simp [Frame.enter, Frame.at, hf, hb, b]
  obtain ⟨a', w', todo, v, hd, hs, hr, hQ⟩ := h b cs
  rw [← henter] at hs
  exact ⟨.returned v, w', _, hQ, hs, rfl, rfl, hd, rfl, fn, hf, hr⟩
/-- A body that is run as the machine says is a call that comes to what the machine says. -/
theorem call_ok {f : FuncId} {g : FSig} {fn : Func} {co : Code} {args : List PV} {x : g.res.den} {s0 : St} {run : St → Option g.res.den} (hfn : P.funcs[f]? = some fn) (hco : fn.body = some co) (hs0 : startS g.par args fn.ntmps = some s0) (hx : run s0 = some x)
    (hrun : ∀ {s : St} {c : Cx W0} {b : Frame} {cs : List Frame} {a : Act} {w : World} {ρ : Nat → Value} {own : Nat → Prop}, run s = some x → RelX ρ own c s a w → Fin P c 0 #[] b cs (finT P fn g) x (lone (b.at a ([.code co].map itm)) cs w)) : CallOk W0 P f g args x := by
  refine ⟨fun hla => ⟨fn, hfn, by rw [hco]; rfl, fun w F vs hst hF hv => ?_⟩, fun i b t y hla ha => ⟨fn, hfn, by rw [hco]; rfl, fun w own F vs q gs us hst hlow hL hv hgu hq => ?_⟩⟩
  · refine calls_of_fin hfn hco fun b cs => ?_
    have e0 : s0 = ⟨args ++ List.replicate (fn.ntmps - args.length) .undef, []⟩ := by
      unfold startS at hs0
      rw [hla] at hs0
      exact (Option.some.inj hs0).symm
    have hrel := begin_rel (L := fun _ => False) (dis := fun _ _ q => q) (pin := none) (st := hst) (low := fun _ q => q.elim) hF (fun _ q => q) hv fn.ntmps (fun _ _ q => by cases q)
    rw [← e0] at hrel
    obtain ⟨ρ', own', s', a', w', todo, h1, h2, _, h3⟩ := hrun (b := b) (cs := cs) hx hrel
    rw [extA_nil] at h2
    obtain ⟨own1, gs, us, us', q1, q2, q3, q4, q5, q6, q7, _⟩ := finT_sound h2 h1
    rw [q7 hla, List.append_nil] at q5
    exact ⟨a', w', todo, wrapV us, h2.defers, h3, q1, own1, gs, us, rfl, h2.below, q2, fun k hk => ⟨(q3 k hk).1, (q3 k hk).2.1.resolve_right id, (q3 k hk).2.2⟩, q4, q5, q6⟩
  · refine calls_of_fin hfn hco fun bb cs => ?_
    obtain ⟨ρ, hrel⟩ := begin_lent hst hlow hla ha hs0 hL hv hgu hq
    obtain ⟨ρ', own', s', a', w', todo, h1, h2, _, h3⟩ := hrun (b := bb) (cs := cs) hx hrel
    rw [extA_nil] at h2
    obtain ⟨own1, gs1, us1, us', q1, q2, q3, q4, q5, q6, _, q8⟩ := finT_sound h2 h1
    obtain ⟨k, arr, k1, k2, k3, k4, k5, k6⟩ := q8 i b t hla
    have e := lentV_inj (k1 _ rfl)
    subst e
    subst k3
    refine ⟨a', w', todo, wrapV us1, h2.defers, h3, q1, own1, gs1, us1, arr, rfl, h2.below, q2, k5, k6, fun j hj => ⟨(q3 j hj).1, ?_, (q3 j hj).2.2⟩, q4, k2, k4, q5, q6⟩
    rcases (q3 j hj).2.1 with z | z
    · exact .inl z
    · rcases z with z | z
      · exact absurd (z ▸ hj) k6
      · exact .inr z
theorem VR_wrap {ρ : Nat → Value} {own : Nat → Prop} {w : World} {vs : List PV} {us : List Value} (h : VRs ρ own w vs us) : VR ρ own w (wrapRes vs) (wrapV us) := by
  cases vs with
  | nil =>
    rw [VRs] at h
    subst h
    show VR ρ own w (.tuple []) _
    rw [VR]
    exact ⟨#[], rfl, by rw [VRs]⟩
  | cons p ps =>
    cases ps with
    | nil =>
      rw [VRs] at h
      obtain ⟨v, r, rfl, h1, h2⟩ := h
      rw [VRs] at h2
      subst h2
      exact h1
    | cons q qs =>
      have hl := h.len
      match us, hl with
      | u :: u' :: us, _ =>
        show VR ρ own w (.tuple (p :: q :: qs)) (.tuple (u :: u' :: us).toArray)
        rw [VR]
        exact ⟨_, rfl, h⟩
theorem resGet_ext {a : Act} {m : Array Value} {lim : Nat} (hs : a.tmps.size = lim) : ∀ {rs : List ResultVar}, rs.all (resIn lim) = true → rs.mapM (resGet (extA a m).tmps) = rs.mapM (resGet a.tmps)
  | [], _ => rfl
  | x :: rs, h => by
    rw [List.all_cons, Bool.and_eq_true] at h
    have ih := resGet_ext (m := m) hs h.2
    have e : resGet (extA a m).tmps x = resGet a.tmps x := by
      cases x with
      | tmp t =>
        have ht : t < a.tmps.size := by rw [hs]; simpa [resIn] using h.1
        have : (extA a m).tmps.getD t undef = a.tmps.getD t undef := by
          show (a.tmps ++ m).getD t undef = _
          rw [getD_app, if_pos ht]
        simp only [resGet, this]
      | cell x t =>
        have ht : x < a.tmps.size := by rw [hs]; simpa [resIn] using h.1
        have : (extA a m).tmps.getD x undef = a.tmps.getD x undef := by
          show (a.tmps ++ m).getD x undef = _
          rw [getD_app, if_pos ht]
        simp only [resGet, this]
    rw [List.mapM_cons, List.mapM_cons, e, ih]
theorem results_ext {fn : Func} {a : Act} {m : Array Value} {lim : Nat} (hs : a.tmps.size = lim) (h : fn.results.toList.all (resIn lim) = true) : results fn (extA a m).tmps = results fn a.tmps := by
  have e : ∀ (tm : Array Value) (f : ResultVar → Sem Value), (∀ x, f x = resGet tm x) → fn.results.mapM f = List.toArray <$> fn.results.toList.mapM (resGet tm) := by
    intro tm f hf
    rw [show f = resGet tm from funext hf, Array.mapM_eq_mapM_toList]
  unfold results
  have k := congrArg (fun z : Sem (List Value) => List.toArray <$> z) (resGet_ext (m := m) hs h)
  refine congrArg (fun z : Sem (Array Value) => z >>= _) (((e (extA a m).tmps _ fun x => ?_).trans k).trans (e a.tmps _ fun x => ?_).symm)
  · cases x <;> rfl
  · cases x <;> rfl
/-- Calls in place are sound. -/
theorem inlN_ok (hS : OkS P S W0) {callT : (f : FuncId) → (g : FSig) → List PV → Option g.res.den} (hcall : ∀ f g args x, callT f g args = some x → CallOk W0 P f g args x) {R : Type} (r : R) : ∀ d : Nat, InlOk P W0 r (inlN P S callT d)
  | 0 => fun c ρ own s a w f args K vs Q h _ _ _ => by rw [inlN] at h; cases h
  | d + 1 => fun c ρ own s a w f args K vs Q h hr hv hn => by
    rw [inlN] at h
    simp only at h
    split at h
    case h_2 => cases h
    rename_i g fn hg hfn
    split at h
    case h_2 => cases h
    rename_i co hco
    split at h
    case isFalse => cases h
    rename_i hc
    rw [Bool.and_eq_true, Bool.and_eq_true, Bool.and_eq_true, Bool.and_eq_true] at hc
    obtain ⟨⟨⟨⟨h1, h2⟩, h3⟩, h4⟩, h5⟩ := hc
    have h1' : args.length ≤ fn.ntmps := by simpa using h1
    have h2' : s.env.length + fn.ntmps < 1000 := by simpa using h2
    have h4' : fn.ntmps ≠ 0 := by
      have : 0 < fn.ntmps := by simpa using h4
      omega
    have hvl := hv.len
    refine ⟨fn, hfn, by rw [hco]; nofun, by simpa using h3, ?_⟩
    refine calls_of_fin hfn hco fun b cs => ?_
    have hsz : (vs.toArray ++ Array.replicate (fn.ntmps - vs.toArray.size) undef).size = fn.ntmps := by simp; omega
    have hst := start_in hr hv h1' h2'
    obtain ⟨ρ', own', s', a', w', todo, k1, k2, k3, k4⟩ := run1_sound hS hcall (inlN_ok hS hcall r d) (lim := fn.ntmps) (v := a.tmps) (b := b) (cs := cs) (fun its s a w ρ own q => by cases q) gas [.code co] h hst (.inr ⟨h4', hsz⟩)
    have ha' : a'.tmps.size = fn.ntmps := by
      rcases k3 with ⟨q, _⟩ | ⟨_, q⟩
      · exact absurd q h4'
      · exact q
    unfold finI at k1
    split at k1
    case h_2 => cases k1
    rename_i us hus
    obtain ⟨xs, hx, hxv⟩ := results_sound k2 hus
    rw [results_ext ha' h5] at hx
    have hend := end_in (a := a) rfl k2 ha' (by rw [← hr.len]; omega) hr.defers
    have hup : ∀ id, rhoUp fn.ntmps ρ' (bandDn fn.ntmps id) = ρ' id := fun id => by
      show ρ' (bandUp fn.ntmps (bandDn fn.ntmps id)) = _
      rw [bandUp_dn _ _ (by omega)]
    exact ⟨a', w', todo, wrapV xs, by have := k2.defers; exact this, k4, hx, ⟨_, rfl, hn _ _ _ _ _ _ k1 hend ((VR_wrap hxv).ren hup)⟩⟩
theorem runF_sound (hS : OkS P S W0) : ∀ (k : Nat) {R : Type} {r : R} {ann : List (Nat × Point)} {fin : St → Option R} {its : List It} {s : St} {c : Cx W0} {b : Frame} {cs : List Frame} {a : Act} {w : World} {ρ : Nat → Value} {own : Nat → Prop},
    runF P S k ann fin its s = some r → RelX ρ own c s a w → Fin P c 0 #[] b cs fin r (lone (b.at a (its.map itm)) cs w)
  | 0, R, r, ann, fin, its, s, c, b, cs, a, w, ρ, own, h, hr => by
    rw [runF] at h
    cases h
  | k + 1, R, r, ann, fin, its, s, c, b, cs, a, w, ρ, own, h, hr => by
    rw [runF] at h
    have hcall : ∀ (f : FuncId) (g : FSig) (args : List PV) (x : g.res.den), (match P.funcs[f]? with
      | none => none
      | some fn =>
        match fn.body with
        | none => none
        | some c => (startS g.par args fn.ntmps).bind fun s => runF P S k g.ann (finT P fn g) [.code c] s) = some x → CallOk W0 P f g args x := by
      intro f g args x hx
      split at hx
      · cases hx
      · rename_i fn hfn
        split at hx
        · cases hx
        · rename_i co hco
          rw [Option.bind_eq_some_iff] at hx
          obtain ⟨s0, hs0, hx⟩ := hx
          exact call_ok hfn hco hs0 hx (fun h hr => runF_sound hS k h hr)
    refine run1_sound hS hcall (inlN_ok hS hcall r 8) (fun its s a w ρ own h hr _ => ?_) gas its h (by rw [extA_nil]; exact hr) (.inl ⟨rfl, rfl⟩)
    rw [extA_nil] at hr
    exact runF_sound hS k h hr
/-- A call by the machine. -/
theorem callF_sound (hS : OkS P S W0) {k : Nat} {f : FuncId} {g : FSig} {args : List PV} {x : g.res.den} (h : callF P S k f g args = some x) : CallOk W0 P f g args x := by
  unfold callF at h
  split at h
  · cases h
  · rename_i fn hfn
    split at h
    · cases h
    · rename_i co hco
      rw [Option.bind_eq_some_iff] at h
      obtain ⟨s0, hs0, h⟩ := h
      exact call_ok hfn hco hs0 h (fun h hr => runF_sound hS k h hr)
end
end Go.Proofs.Ytbaekdcacmoniaa.Pv
