/- Labels that move to another band: the state stays related. A frame whose temporaries have others behind them: a region goes the same way. -/
import Derived.Test.YtbaekdcacmoniaaPv16
import Derived.Test.YtbaekdcacmoniaaPvN1
namespace Go.Proofs.Ytbaekdcacmoniaa.Pv
open Go Go.RowKit

/-! ### bands -/
theorem bandDn_up (n id : Nat) (hn : n < 1000) : bandDn n (bandUp n id) = id := by
  unfold bandUp bandDn
  simp only [Nat.blt_eq, Bool.and_eq_true, Nat.ble_eq, Nat.add_eq, Nat.sub_eq, Nat.mul_eq, show ∀ a b : Nat, Nat.mod a b = a % b from fun _ _ => rfl]
  by_cases h1 : id < 6600000
  · rw [if_pos h1, if_pos (Nat.mod_lt _ (by omega))]
    omega
  · rw [if_neg h1]
    by_cases h2 : 7000000 ≤ id ∧ id < 8000000
    · rw [if_pos h2]
      have h3 : (id - 7000000 + 1000 * n) % 1000000 < 1000000 := Nat.mod_lt _ (by omega)
      rw [if_neg (by omega), if_pos (by omega)]
      omega
    · rw [if_neg h2, if_neg h1, if_neg h2]
theorem bandUp_dn (n id : Nat) (hn : n < 1000) : bandUp n (bandDn n id) = id := by
  unfold bandUp bandDn
  simp only [Nat.blt_eq, Bool.and_eq_true, Nat.ble_eq, Nat.add_eq, Nat.sub_eq, Nat.mul_eq, show ∀ a b : Nat, Nat.mod a b = a % b from fun _ _ => rfl]
  by_cases h1 : id < 6600000
  · rw [if_pos h1, if_pos (Nat.mod_lt _ (by omega))]
    omega
  · rw [if_neg h1]
    by_cases h2 : 7000000 ≤ id ∧ id < 8000000
    · rw [if_pos h2]
      have h3 : (id - 7000000 + (1000000 - 1000 * n)) % 1000000 < 1000000 := Nat.mod_lt _ (by omega)
      rw [if_neg (by omega), if_pos (by omega)]
      omega
    · rw [if_neg h2, if_neg h1, if_neg h2]
theorem gst_up (n id : Nat) : gst (bandUp n id) = gst id := by
  unfold bandUp gst
  simp only [Nat.blt_eq, Bool.and_eq_true, Nat.ble_eq, Nat.add_eq, Nat.sub_eq, Nat.mul_eq, show ∀ a b : Nat, Nat.mod a b = a % b from fun _ _ => rfl]
  have q : ∀ a b : Nat, Nat.ble a b = decide (a ≤ b) := fun a b => by
    cases h : Nat.ble a b with
    | true => rw [Nat.ble_eq] at h; simp [h]
    | false => have : ¬ a ≤ b := fun z => by rw [Nat.ble_eq_true_of_le z] at h; cases h
               simp [this]
  rw [q, q, decide_eq_decide]
  by_cases h1 : id < 6600000
  · have h3 : (id + 1100000) % 6600000 < 6600000 := Nat.mod_lt _ (by omega)
    rw [if_pos h1]
    omega
  · rw [if_neg h1]
    by_cases h2 : 7000000 ≤ id ∧ id < 8000000
    · rw [if_pos h2]
      have h3 : (id - 7000000 + 1000 * n) % 1000000 < 1000000 := Nat.mod_lt _ (by omega)
      omega
    · rw [if_neg h2]
theorem gst_dn (n id : Nat) (hn : n < 1000) : gst (bandDn n id) = gst id := by
  rw [← gst_up n (bandDn n id), bandUp_dn n id hn]
theorem pin_up (n i : Nat) (h : n + i < 1000) : bandUp n (pinL i) = pinL (n + i) := by
  unfold bandUp pinL
  simp only [Nat.blt_eq, Bool.and_eq_true, Nat.ble_eq, Nat.add_eq, Nat.sub_eq, Nat.mul_eq, show ∀ a b : Nat, Nat.mod a b = a % b from fun _ _ => rfl]
  rw [if_neg (by omega), if_pos (by omega)]
  omega

/-! ### values and blocks under other labels -/
section
variable {ρ ρ' : Nat → Value} {own : Nat → Prop} {w : World} {π : Nat → Nat}
mutual
theorem VR.ren (hπ : ∀ id, ρ' (π id) = ρ id) : ∀ {p : PV} {v : Value}, VR ρ own w p v → VR ρ' own w (renP π p) v
  | .undef, _, h => h
  | .int _ _, _, h => by rw [VR] at h; rw [renP, VR]; exact h; all_goals nofun
  | .bool _, _, h => by rw [VR] at h; rw [renP, VR]; exact h; all_goals nofun
  | .str _, _, h => by rw [VR] at h; rw [renP, VR]; exact h; all_goals nofun
  | .nils, _, h => by rw [VR] at h; rw [renP, VR]; exact h; all_goals nofun
  | .empt, _, h => by rw [VR] at h; rw [renP, VR]; exact h; all_goals nofun
  | .zrow, _, h => by rw [VR] at h; rw [renP, VR]; exact h; all_goals nofun
  | .row _ _ _, _, h => by rw [VR] at h; rw [renP, VR]; exact h; all_goals nofun
  | .own id, _, h => by rw [VR] at h; rw [renP, VR, hπ]; exact h
  | .nilp, _, h => by rw [VR] at h; rw [renP, VR]; exact h; all_goals nofun
  | .ref id off, _, h => by rw [VR] at h; rw [renP, VR, hπ]; exact h
  | .elem _ _ _, _, h => by rw [VR] at h; rw [renP, VR]; exact h; all_goals nofun
  | .oelem id _ _ _, _, h => by rw [VR] at h; rw [renP, VR, hπ]; exact h
  | .cref cs off, _, h => by
    rw [VR] at h
    obtain ⟨g, vs, t, h1, h2, h3, h4, h5⟩ := h
    rw [renP, VR]
    exact ⟨g, vs, t, h1, h2, h3, h4, VRs.ren hπ h5⟩
  | .nilf, _, h => by rw [VR] at h; rw [renP, VR]; exact h; all_goals nofun
  | .func f cs, _, h => by
    rw [VR] at h
    obtain ⟨vs, h1, h2⟩ := h
    rw [renP, VR]
    exact ⟨vs, h1, VRs.ren hπ h2⟩
  | .agg cs, _, h => by
    rw [VR] at h
    obtain ⟨vs, h1, h2⟩ := h
    rw [renP, VR]
    exact ⟨vs, h1, VRs.ren hπ h2⟩
  | .tuple cs, _, h => by
    rw [VR] at h
    obtain ⟨vs, h1, h2⟩ := h
    rw [renP, VR]
    exact ⟨vs, h1, VRs.ren hπ h2⟩
  | .deep id, _, h => by rw [VR] at h; rw [renP, VR, hπ]; exact h
  | .delem id _, _, h => by rw [VR] at h; rw [renP, VR, hπ]; exact h
  | .sub id _, _, h => by rw [VR] at h; rw [renP, VR, hπ]; exact h
theorem VRs.ren (hπ : ∀ id, ρ' (π id) = ρ id) : ∀ {ps : List PV} {vs : List Value}, VRs ρ own w ps vs → VRs ρ' own w (renL π ps) vs
  | [], _, h => by rw [VRs] at h; rw [renL, VRs]; exact h
  | p :: ps, _, h => by
    rw [VRs] at h
    obtain ⟨v, r, e, h1, h2⟩ := h
    rw [renL, VRs]
    exact ⟨v, r, e, VR.ren hπ h1, VRs.ren hπ h2⟩
end
theorem BR.ren (hπ : ∀ id, ρ' (π id) = ρ id) {id : Nat} : ∀ {b : Blk}, BR ρ own w id b → BR ρ' own w (π id) (b.ren π)
  | .box t cs, h => by
    obtain ⟨g, vs, e, hh, hv⟩ := h
    exact ⟨g, vs, (hπ id).trans e, hh, VRs.ren hπ hv⟩
  | .row e t l, h => by
    show _ ∨ _
    rw [hπ]
    exact h
  | .map k v l, h => by
    obtain ⟨g, es, cl, e, h1⟩ := h
    exact ⟨g, es, cl, (hπ id).trans e, h1⟩
  | .deep e e' t l o, h => by
    show DeepR own w (ρ' (π id)) e e' t l o
    rw [hπ]
    exact h
theorem nth_ren (π : Nat → Nat) : ∀ (l : List PV) (t : Nat), nth (renL π l) t = renP π (nth l t)
  | [], t => by simp [renL, nth, renP]
  | x :: r, 0 => by rw [renL, nth, nth]
  | x :: r, t + 1 => by rw [renL, nth, nth]; exact nth_ren π r t
theorem len_ren (π : Nat → Nat) : ∀ l : List PV, (renL π l).length = l.length
  | [] => by rw [renL]
  | x :: r => by rw [renL, List.length_cons, List.length_cons, len_ren π r]
theorem look_ren {π π' : Nat → Nat} (h1 : ∀ id, π' (π id) = id) : ∀ (l : List (Nat × Blk)) (j : Nat) (b : Blk), look j (renB π l) = some b → ∃ id b0, j = π id ∧ look id l = some b0 ∧ b = b0.ren π
  | [], j, b, h => by rw [renB, look] at h; cases h
  | (i, c) :: r, j, b, h => by
    rw [renB] at h
    by_cases e : π i = j
    · subst e
      rw [look_cons_same] at h
      cases h
      exact ⟨i, c, rfl, look_cons_same _ _ _, rfl⟩
    · rw [look_cons_ne _ _ e] at h
      obtain ⟨id, b0, k1, k2, k3⟩ := look_ren h1 r j b h
      refine ⟨id, b0, k1, ?_, k3⟩
      rw [look_cons_ne _ _ (fun q => e (by rw [q, ← k1]))]
      exact k2
theorem isRow_ren (π : Nat → Nat) (b : Blk) : (b.ren π).isRow = b.isRow := by cases b <;> rfl
theorem pinAt_ren {n i : Nat} {x : PV} (h : n + i < 1000) (hn : n < 1000) (hp : pinAt (n + i) (renP (bandUp n) x) = true) : pinAt i x = true := by
  have key : ∀ id, Nat.beq (bandUp n id) (pinL (n + i)) = true → Nat.beq id (pinL i) = true := by
    intro id q
    have q1 : bandUp n id = pinL (n + i) := Nat.eq_of_beq_eq_true q
    rw [← pin_up n i h] at q1
    have q2 := congrArg (bandDn n) q1
    rw [bandDn_up _ _ hn, bandDn_up _ _ hn] at q2
    rw [q2]
    exact Nat.beq_refl _
  cases x with
  | ref id off => exact key id hp
  | func f cs =>
    rw [renP] at hp
    match cs, hp with
    | [.ref id off], hp => rw [renL, renP, renL] at hp; exact key id hp
  | _ => simp [renP, pinAt] at hp
theorem pinAt_back {n i : Nat} {x : PV} (h : n + i < 1000) (hn : n < 1000) (hp : pinAt i (renP (bandDn n) x) = true) : pinAt (n + i) x = true := by
  have key : ∀ id, Nat.beq (bandDn n id) (pinL i) = true → Nat.beq id (pinL (n + i)) = true := by
    intro id q
    have q1 : bandDn n id = pinL i := Nat.eq_of_beq_eq_true q
    have q2 := congrArg (bandUp n) q1
    rw [bandUp_dn _ _ hn, pin_up n i h] at q2
    rw [q2]
    exact Nat.beq_refl _
  cases x with
  | ref id off => exact key id hp
  | func f cs =>
    rw [renP] at hp
    match cs, hp with
    | [.ref id off], hp => rw [renL, renP, renL] at hp; exact key id hp
  | _ => simp [renP, pinAt] at hp
end
/-- A frame with other temporaries behind its own. -/
def extA (a : Act) (m : Array Value) : Act := { a with tmps := a.tmps ++ m }
theorem extA_nil (a : Act) : extA a #[] = a := by
  unfold extA
  rw [Array.append_empty]
def Cx.withPin {W0 : World} (c : Cx W0) (p : Option (Nat × Value)) : Cx W0 := ⟨c.w0, c.F, c.L, c.dis, p, c.st, c.low⟩
section
variable {ρ : Nat → Value} {own : Nat → Prop} {W0 : World} {c : Cx W0} {s : St} {a : Act} {w : World}
theorem nth_app1 : ∀ (l m : List PV) (t : Nat), nth (l ++ m) t = if t < l.length then nth l t else nth m (t - l.length)
  | [], m, t => by simp
  | x :: l, m, 0 => by simp [nth]
  | x :: l, m, t + 1 => by
    rw [List.cons_append, nth, nth, nth_app1 l m t, List.length_cons]
    by_cases h : t < l.length
    · rw [if_pos h, if_pos (by omega)]
    · rw [if_neg h, if_neg (by omega), Nat.add_sub_add_right]
theorem nth_repl1 : ∀ (n t : Nat), nth (List.replicate n PV.undef) t = .undef
  | 0, t => by cases t <;> rfl
  | n + 1, 0 => rfl
  | n + 1, t + 1 => by
    rw [List.replicate_succ, nth]
    exact nth_repl1 n t
theorem getD_app (x y : Array Value) (t : Nat) : (x ++ y).getD t undef = if t < x.size then x.getD t undef else y.getD (t - x.size) undef := by
  simp only [Array.getD_eq_getD_getElem?, Array.getElem?_append]
  split <;> rfl
/-- Where the labels lie. -/
def rhoDn (n : Nat) (ρ : Nat → Value) : Nat → Value := fun j => ρ (bandDn n j)
def rhoUp (n : Nat) (ρ : Nat → Value) : Nat → Value := fun j => ρ (bandUp n j)
/-- A call in place begins. -/
theorem start_in (h : RelX ρ own c s a w) {args : List PV} {vs : List Value} {n : Nat} (hv : VRs ρ own w args vs) (hl : args.length ≤ n) (hn : s.env.length + n < 1000) :
    RelX (rhoDn n ρ) own (c.withPin (c.pin.map fun p => (n + p.1, p.2))) (startI s args n) (extA { tmps := vs.toArray ++ Array.replicate (n - vs.toArray.size) undef, defers := [] } a.tmps) w := by
  have hn1 : n < 1000 := by omega
  have hπ : ∀ id, rhoDn n ρ (bandUp n id) = ρ id := fun id => by
    show ρ (bandDn n (bandUp n id)) = _
    rw [bandDn_up _ _ hn1]
  have hvl := hv.len
  have hsz : (vs.toArray ++ Array.replicate (n - vs.toArray.size) undef).size = n := by simp; omega
  have envn : ∀ t, nth (startI s args n).env t = if t < args.length then renP (bandUp n) (nth args t) else if t < n then PV.undef else renP (bandUp n) (nth s.env (t - n)) := by
    intro t
    show nth (renL (bandUp n) args ++ (List.replicate (n - args.length) PV.undef ++ renL (bandUp n) s.env)) t = _
    rw [nth_app1, len_ren]
    split
    · rw [nth_ren]
    · rename_i h1
      rw [nth_app1, List.length_replicate]
      by_cases h2 : t < n
      · rw [if_pos (by omega), if_pos h2, nth_repl1]
      · rw [if_neg (by omega), if_neg h2, nth_ren, show t - args.length - (n - args.length) = t - n by omega]
  have lk : ∀ j b, look j (startI s args n).sto = some b → ∃ id b0, j = bandUp n id ∧ look id s.sto = some b0 ∧ b = b0.ren (bandUp n) := fun j b hj => look_ren (fun id => bandDn_up n id hn1) _ j b hj
  refine ⟨?_, fun t => ?_, fun j b hj => ?_, fun i j b b' g hi hj h1 h2 => ?_, fun j b g hj h1 => ?_, h.lo, h.base, h.fr, h.below, rfl, fun i v hp hi => ?_⟩
  · show (renL (bandUp n) args ++ (List.replicate (n - args.length) PV.undef ++ renL (bandUp n) s.env)).length = ((vs.toArray ++ Array.replicate (n - vs.toArray.size) undef) ++ a.tmps).size
    rw [Array.size_append, hsz, List.length_append, List.length_append, len_ren, len_ren, List.length_replicate, h.len]
    omega
  · rw [envn]
    show VR _ own w _ (((vs.toArray ++ Array.replicate (n - vs.toArray.size) undef) ++ a.tmps).getD t undef)
    rw [getD_app, hsz]
    by_cases h1 : t < args.length
    · rw [if_pos h1, if_pos (by omega), getD_app, if_pos (by simp; omega)]
      have := (hv.nth t).ren (ρ' := rhoDn n ρ) hπ
      rw [Array.getD_eq_getD_getElem?, List.getElem?_toArray, ← List.getD_eq_getElem?_getD]
      exact this
    · rw [if_neg h1]
      by_cases h2 : t < n
      · rw [if_pos h2, VR]
        trivial
      · rw [if_neg h2, if_neg (by omega)]
        exact (h.env (t - n)).ren hπ
  · obtain ⟨id, b0, rfl, h0, rfl⟩ := lk j b hj
    exact (h.sto id b0 h0).ren hπ
  · obtain ⟨id, b0, rfl, h0, rfl⟩ := lk i b hi
    obtain ⟨id', b0', rfl, h0', rfl⟩ := lk j b' hj
    rw [hπ] at h1 h2
    rw [h.apart id id' b0 b0' g h0 h0' h1 h2]
  · obtain ⟨id, b0, rfl, h0, rfl⟩ := lk j b hj
    rw [hπ] at h1
    rw [gst_up, isRow_ren]
    exact h.owned id b0 g h0 h1
  · have hp' : c.pin.map (fun p => (n + p.1, p.2)) = some (i, v) := hp
    rw [Option.map_eq_some_iff] at hp'
    obtain ⟨⟨i0, v0⟩, hc, e⟩ := hp'
    cases e
    show (((vs.toArray ++ Array.replicate (n - vs.toArray.size) undef) ++ a.tmps).getD (n + i0) undef) = _
    rw [getD_app, hsz, if_neg (by omega), show n + i0 - n = i0 by omega]
    rw [envn, if_neg (by omega), if_neg (by omega), show n + i0 - n = i0 by omega] at hi
    by_cases hlt : i0 < s.env.length
    · exact h.pin i0 _ hc (pinAt_ren (by omega) hn1 hi)
    · rw [nth_out _ _ (by omega)] at hi
      simp [renP, pinAt] at hi
theorem nth_drop : ∀ (l : List PV) (n t : Nat), nth (l.drop n) t = nth l (n + t)
  | [], n, t => by simp [nth]
  | x :: l, 0, t => by simp
  | x :: l, n + 1, t => by
    rw [List.drop_succ_cons, nth_drop l n t, show n + 1 + t = (n + t) + 1 by omega, nth]
/-- A call in place ends. -/
theorem end_in {a2 : Act} {n : Nat} (hc : c.pin = c.pin) (h : RelX ρ own (c.withPin (c.pin.map fun p => (n + p.1, p.2))) s (extA a2 a.tmps) w) (hs : a2.tmps.size = n) (hn : a.tmps.size + n < 1000) (hd : a.defers = []) :
    RelX (rhoUp n ρ) own c ⟨renL (bandDn n) (s.env.drop n), renB (bandDn n) s.sto⟩ a w := by
  have hn1 : n < 1000 := by omega
  have hπ : ∀ id, rhoUp n ρ (bandDn n id) = ρ id := fun id => by
    show ρ (bandUp n (bandDn n id)) = _
    rw [bandUp_dn _ _ hn1]
  have hlen : s.env.length = n + a.tmps.size := by
    have := h.len
    unfold extA at this
    rw [Array.size_append] at this
    omega
  have lk : ∀ j b, look j (renB (bandDn n) s.sto) = some b → ∃ id b0, j = bandDn n id ∧ look id s.sto = some b0 ∧ b = b0.ren (bandDn n) := fun j b hj => look_ren (fun id => bandUp_dn n id hn1) _ j b hj
  refine ⟨?_, fun t => ?_, fun j b hj => ?_, fun i j b b' g hi hj h1 h2 => ?_, fun j b g hj h1 => ?_, h.lo, h.base, h.fr, h.below, hd, fun i v hp hi => ?_⟩
  · show (renL (bandDn n) (s.env.drop n)).length = _
    rw [len_ren, List.length_drop, hlen]
    omega
  · show VR _ own w (nth (renL (bandDn n) (s.env.drop n)) t) _
    rw [nth_ren, nth_drop]
    have := h.env (n + t)
    unfold extA at this
    rw [show (({ a2 with tmps := a2.tmps ++ a.tmps } : Act).tmps) = a2.tmps ++ a.tmps from rfl, getD_app, hs, if_neg (by omega), show n + t - n = t by omega] at this
    exact this.ren hπ
  · obtain ⟨id, b0, rfl, h0, rfl⟩ := lk j b hj
    exact (h.sto id b0 h0).ren hπ
  · obtain ⟨id, b0, rfl, h0, rfl⟩ := lk i b hi
    obtain ⟨id', b0', rfl, h0', rfl⟩ := lk j b' hj
    rw [hπ] at h1 h2
    rw [h.apart id id' b0 b0' g h0 h0' h1 h2]
  · obtain ⟨id, b0, rfl, h0, rfl⟩ := lk j b hj
    rw [hπ] at h1
    rw [gst_dn _ _ hn1, isRow_ren]
    exact h.owned id b0 g h0 h1
  · have hi' : pinAt i (nth (renL (bandDn n) (s.env.drop n)) i) = true := hi
    rw [nth_ren, nth_drop] at hi'
    by_cases hlt : i < a.tmps.size
    · have := h.pin (n + i) v (by show c.pin.map _ = _; rw [hp]; rfl) (pinAt_back (by omega) hn1 hi')
      unfold extA at this
      rw [show (({ a2 with tmps := a2.tmps ++ a.tmps } : Act).tmps) = a2.tmps ++ a.tmps from rfl, getD_app, hs, if_neg (by omega), show n + i - n = i by omega] at this
      exact this
    · rw [nth_out _ _ (by omega)] at hi'
      simp [renP, pinAt] at hi'
end
end Go.Proofs.Ytbaekdcacmoniaa.Pv
