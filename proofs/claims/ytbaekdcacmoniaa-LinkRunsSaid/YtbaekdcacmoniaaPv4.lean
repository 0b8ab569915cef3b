/- The operations that leave the world alone: each is carried out by the model as the pure machine says. -/
import Derived.Test.YtbaekdcacmoniaaPv3
import Derived.ChangeKeysEq
import Derived.Laws.Entries
import Derived.WalkKit
import Derived.Laws.StructEq
namespace Go.Proofs.Ytbaekdcacmoniaa.Pv
open Go Go.RowKit

section
variable {ρ : Nat → Value} {own : Nat → Prop} {W0 : World} {c : Cx W0} {w : World} {s : St} {a : Act} {P : Program}
theorem VR_ofCell (v : Value) : VR ρ own w (ofCell v) v := by
  unfold ofCell
  split <;> (rw [VR] <;> first | trivial | rfl | exact ⟨#[], rfl, by rw [VRs]⟩)
theorem VRs_ofCell : ∀ l : List Value, VRs ρ own w (l.map ofCell) l
  | [] => by rw [List.map_nil, VRs]
  | v :: r => by
    rw [List.map_cons, VRs]
    exact ⟨v, r, rfl, VR_ofCell v, VRs_ofCell r⟩
theorem VR_const (v : Value) : VR ρ own w (ofConst v) v := by
  unfold ofConst
  split
  · rename_i cs
    rw [VR]
    exact ⟨cs, rfl, VRs_ofCell _⟩
  · rename_i vs
    split
    · rename_i h
      rw [VR]
      refine ⟨vs, rfl, ?_⟩
      obtain ⟨l⟩ := vs
      have : l = [] := by simpa using h
      subst this
      rw [VRs]
    · rw [VR]
      trivial
  · exact VR_ofCell v
theorem RelX.ev (h : RelX ρ own c s a w) (x : Operand) : VR ρ own w (s.ev x) (a.eval x) := by
  cases x with
  | tmp t => exact h.env t
  | const v => exact VR_const v
  | global g =>
    rw [St.ev, VR]
    trivial
  | func f =>
    rw [St.ev]
    split
    · rename_i hf
      rw [VR]
      exact ⟨#[], by rw [funV_fn hf]; rfl, by rw [VRs]⟩
    · rw [VR]
      trivial
theorem RelX.evs (h : RelX ρ own c s a w) : ∀ l : List Operand, VRs ρ own w (l.map s.ev) (l.map a.eval)
  | [] => by rw [List.map_nil, VRs]; rfl
  | x :: r => by
    rw [List.map_cons, VRs]
    exact ⟨_, _, rfl, h.ev x, h.evs r⟩

/-- What an operation comes to, where it yields a value in a world. -/
theorem wp_value {o : Oper} {next : Act → World → Prop} {Q : Exit → Act → World → Prop} {v : Value} {w' : World} (hr : (execOp a.eval o).run P w = .ok (.value v) w') (hn : next (a.put o.dst v) w') : o.wp P a w next Q := by
  unfold Oper.wp
  rw [hr]
  exact hn
theorem wp_skip_ {o : Oper} {next : Act → World → Prop} {Q : Exit → Act → World → Prop} {w' : World} (hr : (execOp a.eval o).run P w = .ok .skip w') (hn : next (a.put o.dst undef) w') : o.wp P a w next Q := by
  unfold Oper.wp
  rw [hr]
  exact hn

/-! ### arithmetic -/
/-- Of a value that is a number, a bool or a text nothing hangs on the world. -/
theorem run_arith {R : Type} {t : TypeId} {op : BinOp} {k : IntKind} {x y : Int} {K : PV → Option R} {r : R} (h : arith op k x y K = some r) :
    ∃ p v, K p = some r ∧ (∀ ρ own w', VR ρ own w' p v) ∧ (binOp op t (.int k x) (.int k y)).run P w = .ok v w := by
  cases op <;> simp only [arith] at h <;> first
    | exact ⟨_, _, h, fun _ _ _ => by rw [VR], by simp [binOp, Op.intArith, Op.intBits, Op.intCmp, bitop]⟩
    | (split at h
       · cases h
       · rename_i hy
         exact ⟨_, _, h, fun _ _ _ => by rw [VR], by simp [binOp, Op.intDiv, hy]⟩)
    | cases h
theorem run_shift {R : Type} {t : TypeId} {k yk : IntKind} {x y : Int} {K : PV → Option R} {r : R} (h : evBin P t .shl (.int k x) (.int yk y) K = some r) :
    ∃ p v, K p = some r ∧ (∀ ρ own w', VR ρ own w' p v) ∧ (binOp .shl t (.int k x) (.int yk y)).run P w = .ok v w := by
  simp only [evBin] at h
  split at h
  · cases h
  · rename_i hy
    exact ⟨_, _, h, fun _ _ _ => by rw [VR], by simp [binOp, Op.shift, hy]⟩
theorem run_shiftr {R : Type} {t : TypeId} {k yk : IntKind} {x y : Int} {K : PV → Option R} {r : R} (h : evBin P t .shr (.int k x) (.int yk y) K = some r) :
    ∃ p v, K p = some r ∧ (∀ ρ own w', VR ρ own w' p v) ∧ (binOp .shr t (.int k x) (.int yk y)).run P w = .ok v w := by
  simp only [evBin] at h
  split at h
  · cases h
  · rename_i hy
    exact ⟨_, _, h, fun _ _ _ => by rw [VR], by simp [binOp, Op.shift, hy]⟩
/-! ### parts and equality -/
theorem VRs.drop : ∀ (n : Nat) {ps : List PV} {vs : List Value}, VRs ρ own w ps vs → VRs ρ own w (ps.drop n) (vs.drop n)
  | 0, _, _, h => h
  | n + 1, [], _, h => by
    rw [VRs] at h
    subst h
    rw [List.drop_nil, List.drop_nil, VRs]
  | n + 1, p :: ps, _, h => by
    rw [VRs] at h
    obtain ⟨v, r, rfl, _, h⟩ := h
    rw [List.drop_succ_cons, List.drop_succ_cons]
    exact VRs.drop n h
theorem VRs.take : ∀ (n : Nat) {ps : List PV} {vs : List Value}, VRs ρ own w ps vs → VRs ρ own w (ps.take n) (vs.take n)
  | 0, _, _, _ => by rw [List.take_zero, List.take_zero, VRs]
  | n + 1, [], _, h => by
    rw [VRs] at h
    subst h
    rw [List.take_nil, List.take_nil, VRs]
  | n + 1, p :: ps, _, h => by
    rw [VRs] at h
    obtain ⟨v, r, rfl, h1, h⟩ := h
    rw [List.take_succ_cons, List.take_succ_cons, VRs]
    exact ⟨v, _, rfl, h1, VRs.take n h⟩
theorem VRs.get : ∀ (n : Nat) {ps : List PV} {vs : List Value} {p : PV}, VRs ρ own w ps vs → ps[n]? = some p → ∃ v, vs[n]? = some v ∧ VR ρ own w p v
  | n, [], _, _, _, hp => by simp at hp
  | 0, q :: ps, _, _, h, hp => by
    rw [VRs] at h
    obtain ⟨v, r, rfl, h1, _⟩ := h
    simp at hp
    subst hp
    exact ⟨v, rfl, h1⟩
  | n + 1, q :: ps, _, _, h, hp => by
    rw [VRs] at h
    obtain ⟨v, r, rfl, _, h⟩ := h
    exact VRs.get n h (by simpa using hp)
theorem VRs.append {ps qs : List PV} {vs us : List Value} (h : VRs ρ own w ps vs) (k : VRs ρ own w qs us) : VRs ρ own w (ps ++ qs) (vs ++ us) := by
  induction ps generalizing vs with
  | nil =>
    rw [VRs] at h
    subst h
    exact k
  | cons p ps ih =>
    rw [VRs] at h
    obtain ⟨v, r, rfl, h1, h⟩ := h
    rw [List.cons_append, List.cons_append, VRs]
    exact ⟨v, _, rfl, h1, ih h⟩
theorem run_isAgg_of {t : TypeId} {b : Bool} (h : aggT P t = some b) : (isAgg t).run P w = .ok b w := by
  unfold aggT at h
  unfold isAgg
  split at h
  · cases h
  all_goals (cases h; rename_i hu; simp [run_underlying hu])
theorem sizeT_info {t : TypeId} {n : Nat} (h : sizeT P t = some n) : ∃ i, P.info? t = some i ∧ i.size = n := by
  unfold sizeT at h
  cases hi : P.info? t with
  | none => rw [hi] at h; cases h
  | some i => rw [hi] at h; exact ⟨i, rfl, by simpa using h⟩
theorem run_sizeOf_of {t : TypeId} {n : Nat} (h : sizeT P t = some n) : (sizeOf t).run P w = .ok n w := by
  obtain ⟨i, hi, rfl⟩ := sizeT_info h
  simp [sizeOf, typeInfo, hi]
theorem run_part_of {t : TypeId} {cs : List PV} {off : Nat} {p : PV} (h : partT P t cs off = some p) {vs : Array Value} (hv : VRs ρ own w cs vs.toList) : ∃ v, (part t vs off).run P w = .ok v w ∧ VR ρ own w p v := by
  unfold partT at h
  split at h
  · rename_i ha
    split at h
    · rename_i n hn
      split at h
      · rename_i hl
        cases h
        refine ⟨.agg (vs.extract off (off + n)), by simp [part, run_isAgg_of ha, run_sizeOf_of hn], ?_⟩
        rw [VR]
        refine ⟨_, rfl, ?_⟩
        have := (hv.drop off).take n
        simpa [List.take_drop, Nat.add_comm] using this
      · cases h
    · cases h
  · rename_i ha
    obtain ⟨v, hv1, hv2⟩ := hv.get off h
    refine ⟨v, ?_, hv2⟩
    have : vs[off]? = some v := by simpa using hv1
    simp [part, run_isAgg_of ha, this]
  · cases h
theorem eqf_last_ {d : Nat} {xs ys : Array Value} {f : Field} {a b : Value} {q : Bool} (hn : ¬ (f.name == "_") = true) (ha : (part f.type xs f.offset).run P w = .ok a w) (hb : (part f.type ys f.offset).run P w = .ok b w) (he : (Op.equalIn d f.type a b).run P w = .ok q w) : (Op.eqFields d xs ys [f]).run P w = .ok q w := by
  have hn' : f.name ≠ "_" := by simpa using hn
  simp only [Op.eqFields, if_pos hn', Sem.run_bind, ha, hb, he, Result.andThen_ok]
  cases q <;> simp
theorem eqf_cons_ {d : Nat} {xs ys : Array Value} {f : Field} {fs : List Field} {a b : Value} {q q' : Bool} (hn : ¬ (f.name == "_") = true) (ha : (part f.type xs f.offset).run P w = .ok a w) (hb : (part f.type ys f.offset).run P w = .ok b w) (he : (Op.equalIn d f.type a b).run P w = .ok q w) (hr : (Op.eqFields d xs ys fs).run P w = .ok q' w) : (Op.eqFields d xs ys (f :: fs)).run P w = .ok (q && q') w := by
  have hn' : f.name ≠ "_" := by simpa using hn
  rw [Op.eqFields]
  simp only [if_pos hn', Sem.run_bind, ha, hb, he, Result.andThen_ok]
  cases q
  · simp
  · simpa using hr
theorem run_eqFs {n d : Nat} {eq : TypeId → PV → PV → Option Bool} (ih : ∀ t x y q, eq t x y = some q → ∀ vx vy, VR ρ own w x vx → VR ρ own w y vy → (Op.equalIn d t vx vy).run P w = .ok q w) : ∀ (fs : List Field) {xs ys : List PV} {q : Bool}, eqFs P eq xs ys fs = some q → ∀ {vx vy : Array Value}, VRs ρ own w xs vx.toList → VRs ρ own w ys vy.toList → (Op.eqFields d vx vy fs).run P w = .ok q w
  | [], _, _, _, h, _, _, _, _ => by
    rw [eqFs] at h
    cases h
    simp [Op.eqFields]
  | [f], xs, ys, q, h, vx, vy, hx, hy => by
    rw [eqFs] at h
    split at h
    · cases h
    · rename_i hn
      split at h
      · rename_i a b ha hb
        obtain ⟨u, hu, hu'⟩ := run_part_of ha hx
        obtain ⟨v, hv, hv'⟩ := run_part_of hb hy
        exact eqf_last_ hn hu hv (ih _ _ _ _ h _ _ hu' hv')
      · cases h
  | f :: g :: r, xs, ys, q, h, vx, vy, hx, hy => by
    rw [eqFs] at h
    split at h
    · cases h
    · rename_i hn
      split at h
      · rename_i a b ha hb
        obtain ⟨u, hu, hu'⟩ := run_part_of ha hx
        obtain ⟨v, hv, hv'⟩ := run_part_of hb hy
        simp only at h
        split at h
        · rename_i q1 q2 h1 h2
          cases h
          exact eqf_cons_ hn hu hv (ih _ _ _ _ h1 _ _ hu' hv') (run_eqFs (n := n) ih (g :: r) h2 hx hy)
        · cases h
      · cases h
theorem run_eqT : ∀ (n m : Nat) (t : TypeId) (x y : PV) (q : Bool), n ≤ m → eqT P n t x y = some q → ∀ vx vy, VR ρ own w x vx → VR ρ own w y vy → (Op.equalIn m t vx vy).run P w = .ok q w
  | 0, _, _, _, _, _, _, h, _, _, _, _ => by rw [eqT] at h; cases h
  | n + 1, 0, _, _, _, _, hm, _, _, _, _, _ => by omega
  | n + 1, m + 1, t, x, y, q, hm, h, vx, vy, hx, hy => by
    unfold eqT at h
    split at h
    · rename_i hu
      rw [VR] at hx hy
      subst hx hy
      split at h
      · rename_i hk
        subst hk
        cases h
        exact run_equalIn_int w m t _ _ _ _ hu
      · cases h
    · rename_i hu
      rw [VR] at hx hy
      subst hx hy
      cases h
      exact run_equalIn_bool' w m t _ _ hu
    · rename_i hu
      rw [VR] at hx hy
      subst hx hy
      cases h
      exact run_equalIn_string w m t _ _ hu
    · rename_i hu
      rw [VR] at hx hy
      subst hx hy
      cases h
      simp [Op.equalIn, run_underlying hu]
    · rename_i fs xs ys hu
      rw [VR] at hx hy
      obtain ⟨ux, rfl, hx⟩ := hx
      obtain ⟨uy, rfl, hy⟩ := hy
      split at h
      · cases h
      · rename_i hs
        have hf : P.fieldsOf t = fs := by simp [Program.fieldsOf, hu]
        rw [run_equalIn_struct (P := P) w m t ux uy (by rw [hf]; exact hu) (by simpa using hs), hf]
        exact run_eqFs (n := n) (fun t x y q hq vx vy h1 h2 => run_eqT n m t x y q (by omega) hq vx vy h1 h2) fs.toList h hx hy
    · cases h
theorem run_eqNil {t e : TypeId} (hu : P.underlying t = some (.slice e)) (A : Option Addr) (n k : Nat) (w : World) : (Op.equal t (.slice A n k) (.slice none 0 0)).run P w = .ok A.isNone w := by
  have : ∀ d, (Op.equalIn (d + 1) t (.slice A n k) (.slice none 0 0)).run P w = .ok A.isNone w := by
    intro d
    cases A <;> simp [Op.equalIn, run_underlying hu]
  exact this 9999
theorem run_bin {R : Type} {t : TypeId} {op : BinOp} {ox oy : Operand} {x y : PV} {K : PV → Option R} {r : R} (h : evBin P t op x y K = some r) {vx vy : Value} (hx : VR ρ own w x vx) (hy : VR ρ own w y vy) :
    ∃ p v, K p = some r ∧ VR ρ own w p v ∧ (do eqGuard op t ox oy vx vy; binOp op t vx vy : Sem Value).run P w = .ok v w := by
  unfold evBin at h
  split at h
  · rw [VR] at hx hy
    subst hx hy
    rename_i k a k' b
    have key : ∃ p v, K p = some r ∧ (∀ ρ own w', VR ρ own w' p v) ∧ (binOp op t (.int k a) (.int k' b)).run P w = .ok v w := by
      split at h
      · exact run_shift (P := P) (t := t) (by simpa [evBin] using h)
      · exact run_shiftr (P := P) (t := t) (by simpa [evBin] using h)
      · split at h
        · rename_i hk
          subst hk
          exact run_arith h
        · cases h
    obtain ⟨p, v, h1, h2, h3⟩ := key
    exact ⟨p, v, h1, h2 _ _ _, by simp [eqGuard, h3]⟩
  · rw [VR] at hx hy
    subst hx hy
    split at h
    · split at h
      · rename_i hl
        refine ⟨_, _, h, by rw [VR], ?_⟩
        rename_i xa xb _
        have : ¬ (((xa.size + xb.size : Nat) : Int) > IntKind.i64.max) := by
          simp [IntKind.max, IntKind.signed, IntKind.bits]
          omega
        simp only [eqGuard, binOp, Op.stringOp]
        rw [if_neg this]
        simp
      · cases h
    · exact ⟨_, _, h, by rw [VR], by simp [eqGuard, binOp, Op.stringOp]⟩
    · exact ⟨_, _, h, by rw [VR], by simp [eqGuard, binOp, Op.stringOp]⟩
    · cases h
  · rw [VR] at hx hy
    subst hx hy
    split at h
    · rename_i hu
      exact ⟨_, _, h, by rw [VR], by simp [eqGuard, binOp, Op.equal, Op.maxDepth, run_equalIn_bool' w _ t _ _ hu]⟩
    · rename_i hu
      exact ⟨_, _, h, by rw [VR], by simp [eqGuard, binOp, Op.equal, Op.maxDepth, run_equalIn_bool' w _ t _ _ hu]⟩
    · cases h
  · split at h
    · cases h
    · rename_i hm
      have hx' := hx
      have hy' := hy
      rw [VR] at hx hy
      obtain ⟨ux, rfl, hx⟩ := hx
      obtain ⟨uy, rfl, hy⟩ := hy
      split at h
      · rename_i q hq
        have := run_eqT (P := P) 40 10000 t _ _ q (by omega) hq _ _ hx' hy'
        exact ⟨_, _, h, by rw [VR], by rw [Sem.run_bind, run_eqGuard_agg _ _ _ _ _ _ _ (by simpa using hm)]; simp [run_eql_struct, this]⟩
      · rename_i q hq
        have := run_eqT (P := P) 40 10000 t _ _ q (by omega) hq _ _ hx' hy'
        exact ⟨_, _, h, by rw [VR], by rw [Sem.run_bind, run_eqGuard_agg _ _ _ _ _ _ _ (by simpa using hm)]; simp [run_neq_struct, this]⟩
      · cases h
  · rename_i e τ l
    have hx0 := hx
    rw [VR] at hx
    rw [VR] at hy
    subst hy
    rw [RdC.eq_def] at hx
    obtain ⟨A, k, e1, h1, h2, h3, h4⟩ := hx
    cases e1
    have hA : l.isEmpty = false → ∃ b, A = some b := by
      intro hl
      cases A with
      | some b => exact ⟨b, rfl⟩
      | none =>
        have := h3 rfl
        cases l with
        | nil => cases hl
        | cons y l => simp at h1; omega
    split at h
    · rename_i e' hu
      split at h
      · cases h
      · rename_i hl
        obtain ⟨b, rfl⟩ := hA (by simpa using hl)
        exact ⟨_, _, h, by rw [VR], by simp [eqGuard, binOp, run_eqNil hu]⟩
    · rename_i e' hu
      split at h
      · cases h
      · rename_i hl
        obtain ⟨b, rfl⟩ := hA (by simpa using hl)
        exact ⟨_, _, h, by rw [VR], by simp [eqGuard, binOp, run_eqNil hu]⟩
    · cases h
  · rw [VR] at hx
    rw [VR] at hy
    subst hy
    obtain ⟨b, k, rfl⟩ := hx
    split at h
    · rename_i e' hu
      exact ⟨_, _, h, by rw [VR], by simp [eqGuard, binOp, run_eqNil hu]⟩
    · rename_i e' hu
      exact ⟨_, _, h, by rw [VR], by simp [eqGuard, binOp, run_eqNil hu]⟩
    · cases h
  · rw [VR] at hx hy
    subst hx hy
    split at h
    · rename_i e' hu
      exact ⟨_, _, h, by rw [VR], by simp [eqGuard, binOp, run_eqNil hu]⟩
    · rename_i e' hu
      exact ⟨_, _, h, by rw [VR], by simp [eqGuard, binOp, run_eqNil hu]⟩
    · cases h
  · cases h
end
end Go.Proofs.Ytbaekdcacmoniaa.Pv
