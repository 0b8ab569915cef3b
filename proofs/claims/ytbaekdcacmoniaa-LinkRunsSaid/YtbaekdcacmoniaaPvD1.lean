/- One operation carried out in two states, of which one knows less: what it comes to is the same. -/
import Derived.Test.YtbaekdcacmoniaaPv15
namespace Go.Proofs.Ytbaekdcacmoniaa.Pv
open Go Go.RowKit

/-- s knows less than m. -/
structure Sub (s m : St) : Prop where
  env : ∀ t, nth s.env t = .undef ∨ nth s.env t = nth m.env t
  sto : ∀ id b, look id s.sto = some b → look id m.sto = some b
section
variable {R : Type} {r : R} {P : Program} {S : List (FuncId × FSig)} {callT : (f : FuncId) → (g : FSig) → List PV → Option g.res.den} {s m : St}
theorem Sub.ev (h : Sub s m) {x : Operand} (hs : solidV (s.ev x) = true) : m.ev x = s.ev x := by
  cases x with
  | tmp t =>
    rcases h.env t with q | q
    · simp [St.ev, q, solidV] at hs
    · exact q.symm
  | _ => rfl
theorem Sub.isSome (h : Sub s m) {id : Nat} (hs : (look id s.sto).isSome = true) : look id m.sto = look id s.sto := by
  obtain ⟨b, hb⟩ := Option.isSome_iff_exists.1 hs
  rw [hb, h.sto _ _ hb]
theorem evLoad_sub (h : Sub s m) {t : TypeId} {x v : PV} (hl : evLoad P s t x = some v) : evLoad P m t x = some v := by
  cases x <;> simp only [evLoad] at hl ⊢ <;> first
    | exact hl
    | (split at hl
       · rename_i hk
         rw [h.sto _ _ hk]
         exact hl
       · cases hl)
theorem lenPV_sub (h : Sub s m) {x : PV} {n : Nat} (hl : lenPV s x = some n) : lenPV m x = some n := by
  cases x <;> simp only [lenPV] at hl ⊢ <;> first
    | exact hl
    | (split at hl
       · rename_i hk
         rw [h.sto _ _ hk]
         exact hl
       · cases hl)
theorem contents_sub (h : Sub s m) {e : TypeId} {t : Ty} {x : PV} {l : List t.den} (hl : contents s e t x = some l) : contents m e t x = some l := by
  cases x <;> simp only [contents] at hl ⊢ <;> first
    | exact hl
    | (split at hl
       · rename_i hk
         rw [h.sto _ _ hk]
         exact hl
       · cases hl)
theorem isRowB_some {o : Option Blk} (q : isRowB o = true) : o.isSome = true := by
  cases o with
  | none => cases q
  | some b => rfl
theorem isDeepB_some {o : Option Blk} (q : isDeepB o = true) : o.isSome = true := by
  cases o with
  | none => cases q
  | some b => rfl
theorem known_sub (h : Sub s m) {v : PV} (hk : known s.sto v = true) : known m.sto v = true := by
  cases v <;> simp only [known] at hk ⊢ <;> first
    | exact hk
    | (rw [h.isSome (isRowB_some hk)]; exact hk)
    | (rw [h.isSome (isDeepB_some hk)]; exact hk)
theorem fillParts_sub (h : Sub s m) {sz : Nat → Option (Nat × Nat)} : ∀ {ps : List (Nat × PV)} {cs x : List PV}, fillParts s.sto sz cs ps = some x → fillParts m.sto sz cs ps = some x
  | [], _, _, q => q
  | (i, v) :: ps, cs, x, q => by
    simp only [fillParts] at q ⊢
    split at q
    · rename_i off n hsz
      split at q
      · rename_i hk
        simp only [Bool.and_eq_true] at hk
        have hk2 : (known m.sto v && Nat.beq (cellsOfPV v).length n && Nat.ble (off + n) cs.length) = true := by
          rw [known_sub h hk.1.1, hk.1.2, hk.2]
          rfl
        simp only [hk2, if_true]
        exact fillParts_sub h q
      · cases q
    · cases q
theorem evBuild_sub (h : Sub s m) {t : TypeId} {ps : List (Nat × PV)} {v : PV} (q : evBuild P s.sto t ps = some v) : evBuild P m.sto t ps = some v := by
  unfold evBuild at q ⊢
  split at q
  · split at q
    · rename_i l hl
      rw [Option.map_eq_some_iff] at q ⊢
      obtain ⟨y, q, e⟩ := q
      exact ⟨y, fillParts_sub h q, e⟩
    · cases q
  · split at q
    · rename_i n hn
      rw [Option.map_eq_some_iff] at q ⊢
      obtain ⟨y, q, e⟩ := q
      exact ⟨y, fillParts_sub h q, e⟩
    · cases q
  · cases q
theorem litRow_sub (h : Sub s m) {τ : Ty} : ∀ {ps : List (Nat × PV)} {i : Nat} {l : List τ.den}, litRow s.sto τ i ps = some l → litRow m.sto τ i ps = some l
  | [], _, _, q => q
  | (j, v) :: ps, i, l, q => by
    simp only [litRow] at q ⊢
    split at q
    · rename_i hk
      rw [Bool.and_eq_true] at hk
      have hk2 : (Nat.beq i j && known m.sto v) = true := by
        rw [hk.1, known_sub h hk.2]
        rfl
      rw [if_pos hk2]
      split at q
      · rename_i x hx
        split at q
        · rename_i l' hl
          rw [litRow_sub h hl]
          exact q
        · cases q
      · cases q
    · cases q
theorem arith_bind (op : BinOp) (k : IntKind) (x y : Int) (K : PV → Option R) : arith op k x y K = (arith op k x y some).bind K := by
  cases op <;> simp only [arith] <;> first | rfl | (split <;> rfl)
theorem evBin_bind (t : TypeId) (op : BinOp) (x y : PV) (K : PV → Option R) : evBin P t op x y K = (evBin P t op x y some).bind K := by
  unfold evBin
  split
  · split
    · split <;> rfl
    · split <;> rfl
    · split
      · exact arith_bind _ _ _ _ _
      · rfl
  · split
    · split <;> rfl
    · rfl
    · rfl
    · rfl
  · split <;> rfl
  · split
    · rfl
    · split <;> rfl
  · split
    · split <;> rfl
    · split <;> rfl
    · rfl
  · split <;> rfl
  · split <;> rfl
  · rfl
theorem evUn_bind (op : UnOp) (x : PV) (K : PV → Option R) : evUn op x K = (evUn op x some).bind K := by
  unfold evUn
  split <;> rfl
theorem evIndex_bind (t : TypeId) (x i : PV) (K : PV → Option R) : evIndex P t x i K = (evIndex P t x i some).bind K := by
  unfold evIndex
  split
  · split
    · split <;> rfl
    · rfl
  · split
    · split
      · split
        · split <;> rfl
        · rfl
      · rfl
    · rfl
  · rfl
theorem evIndexAddr_bind (t : TypeId) (x i : PV) (K : PV → Option R) : evIndexAddr P s t x i K = (evIndexAddr P s t x i some).bind K := by
  unfold evIndexAddr
  split
  · split
    · split
      · split
        · split <;> rfl
        · rfl
      · rfl
    · split
      · split
        · split
          · split <;> rfl
          · rfl
        · rfl
      · rfl
    · split
      · split
        · split
          · split <;> rfl
          · rfl
        · rfl
      · rfl
    · split
      · split
        · split
          · split <;> rfl
          · rfl
        · rfl
      · rfl
    · rfl
  · rfl
theorem evIndexAddr_sub (h : Sub s m) {t : TypeId} {x i p : PV} (q : evIndexAddr P s t x i some = some p) : evIndexAddr P m t x i some = some p := by
  unfold evIndexAddr at q ⊢
  split at q
  · split at q
    · exact q
    · split at q
      · rename_i hk
        rw [h.sto _ _ hk]
        exact q
      · cases q
    · split at q
      · rename_i hk
        rw [h.sto _ _ hk]
        exact q
      · cases q
    · exact q
    · cases q
  · cases q
theorem bound_bind (lo hi : Int) (n : Option PV) (d : Int) (K : Int → Option R) : bound lo hi n d K = (bound lo hi n d some).bind K := by
  unfold bound
  split
  · rfl
  · split
    · split <;> rfl
    · rfl
  · rfl
end
end Go.Proofs.Ytbaekdcacmoniaa.Pv
