/- strings.Split at a separator of one byte, by the shelf's contract; and the wrap of a row that bears a condition, tables and the world's shape. -/
import Derived.Shelf.Strings.SplitShaped
import Derived.Test.YtgmdmfbdolbpnaaDoorPv23
import Derived.JoinedCond
import Derived.SizedLaws
import Derived.LaidLaws
import Derived.Stop.Joined
set_option linter.unusedVariables false
namespace Go.Proofs.YtgmdmfbdolbpnaaDoor.Pv
open Go Go.Proofs Go.Shelf Go.RowKit
variable {P : Program} {ρ : Ren} {W0 : World}
theorem splitK_eq (b : UInt8) : ∀ (l : List UInt8) (k : Nat), Lib.count l [b] = k → Lib.splitK [b] 0 k l = splitL b l
  | [], k, h => by
    have e : Lib.index [] [b] = -1 := rfl
    rw [Lib.count_miss e] at h
    subst h
    rfl
  | x :: r, k, h => by
    by_cases hx : x = b
    · subst hx
      have e : Lib.index (x :: r) [x] = ((0 : Nat) : Int) := by
        have hp : ([x].isPrefixOf (x :: r)) = true := by show (x == x && true) = true; rw [beq_self_eq_true]; rfl
        rw [Lib.index, if_pos hp]
        rfl
      rw [Lib.count_hit (List.cons_ne_nil _ _) e] at h
      have hd : (x :: r).drop (0 + [x].length) = r := rfl
      rw [hd] at h
      subst h
      rw [Nat.add_comm, Lib.splitK, e]
      show [] :: Lib.splitK [x] 0 (Lib.count r [x]) r = splitL x (x :: r)
      rw [splitK_eq x r _ rfl, splitL, if_pos rfl]
    · have hnp : ([b].isPrefixOf (x :: r)) = false := by
        show (b == x && true) = false
        rw [Bool.and_true, beq_eq_false_iff_ne]
        exact Ne.symm hx
      rcases Lib.index_spec r [b] with ⟨hi, _⟩ | ⟨i, hi, _, _, _⟩
      · have e : Lib.index (x :: r) [b] = -1 := by
          have hp : ¬ ([b].isPrefixOf (x :: r)) = true := by rw [hnp]; simp
          rw [Lib.index, if_neg hp, hi]
          rfl
        rw [Lib.count_miss e] at h
        subst h
        have ih := splitK_eq b r 0 (Lib.count_miss hi)
        rw [Lib.splitK] at ih
        rw [Lib.splitK, splitL, if_neg hx, ← ih]
      · have hne : ¬ ((i : Int) == -1) = true := by
          rw [beq_iff_eq]
          omega
        have e : Lib.index (x :: r) [b] = ((i + 1 : Nat) : Int) := by
          have hp : ¬ ([b].isPrefixOf (x :: r)) = true := by rw [hnp]; simp
          rw [Lib.index, if_neg hp, hi, if_neg hne]
          rfl
        have c1 := Lib.count_hit (s := x :: r) (List.cons_ne_nil _ _) e
        have c2 := Lib.count_hit (s := r) (List.cons_ne_nil _ _) hi
        have hd : (x :: r).drop (i + 1 + [b].length) = r.drop (i + [b].length) := by
          show (x :: r).drop (i + 1 + 1) = r.drop (i + 1)
          rw [List.drop_succ_cons]
        rw [hd, ← c2] at c1
        rw [c1] at h
        have ih := splitK_eq b r k h
        cases k with
        | zero => omega
        | succ k =>
          have h1 : ¬ (Lib.index r [b] == -1) = true := by rw [hi]; exact hne
          have h2 : ¬ (Lib.index (x :: r) [b] == -1) = true := by
            rw [e, beq_iff_eq]
            omega
          rw [Lib.splitK, if_neg h1] at ih
          rw [Lib.splitK, if_neg h2, splitL, if_neg hx, ← ih, e, hi]
          have t1 : ((i + 1 : Nat) : Int).toNat = i + 1 := Int.toNat_natCast _
          have t2 : ((i : Nat) : Int).toNat = i := Int.toNat_natCast _
          rw [t1, t2, hd]
          rfl
theorem cell_later {w : World} {g : Nat} {v : Value} (h : W0.cell? ⟨g, 0, none⟩ = some v) (hb : Beneath (fun _ => False) W0 w) : w.cell? ⟨g, 0, none⟩ = some v := by
  have hlt : g < W0.heap.size := by
    rcases Nat.lt_or_ge g W0.heap.size with q | q
    · exact q
    · unfold World.cell? at h
      simp [Array.getElem?_eq_none q] at h
  exact (World.cell?_of_block (w := W0) (hb.block g hlt (fun q => q))).trans h
theorem splitOk (L : LaysM.n146 P ρ) (hs : W0.ShapedOpen P) (x sep : ByteArray) (b : UInt8) (w : World) (hsep : sep.data.toList = [b]) (hx : x.size < 4294967281) (hb : Beneath (fun _ => False) W0 w) :
    Calls P (ρ.f 146) #[.string x, .string sep] w fun r w' => r = .returned (.slice (some ⟨w.heap.size, 0, none⟩) (splitB b x).length (splitB b x).length) ∧ w' = w.alloc (.cells ((splitB b x).map Value.string).toArray (ρ.t 9)) := by
  obtain ⟨m, hm⟩ := L.s1_3 W0 hs
  have h1 : 1 ≤ sep.size := by
    have : sep.data.toList.length = sep.size := Array.length_toList
    rw [hsep] at this
    simp at this
    omega
  have hlen := Lib.splitB_all sep h1 0 _ x rfl
  have e : Lib.splitB sep 0 (Lib.countB x sep) x = splitB b x := by
    have hd := Lib.splitB_data sep 0 (Lib.countB x sep) x
    have hc : Lib.count x.data.toList [b] = Lib.countB x sep := by unfold Lib.countB; rw [hsep]
    rw [hsep, splitK_eq b _ _ hc] at hd
    unfold splitB
    rw [← hd, List.map_map]
    have : ((fun l => (⟨l.toArray⟩ : ByteArray)) ∘ fun y : ByteArray => y.data.toList) = id := by
      funext y
      simp
    rw [this, List.map_id]
  have c := Any.strings_Split { L with } L.i9 x sep m w hx (cell_later hm hb) h1
  rw [← hlen, e] at c
  exact c
/-- A row with a condition of its own and tables: what its call is given. -/
theorem returns_all {H : Type} {enc : TypeId × Value → H} {a : Assume} {C : Checked} {os : Os} {f : FuncId} {fn : Func} {s : OpenSpec} {k : (H : Type) → List (DataW H) → Bool} (hk : s.cond = some k) {F : Stop.Interp} {conds : List PathCond} {apart fresh handsOn again : Bool} {X : World → Array Value → Prop}
    (hX : ∀ (w w' : World) (args : Array Value), w.heap = w'.heap → X w args → X w' args)
    (own : ownKnob C.prog.godebug = none) (started : os.Started) (noInit : C.prog.inits.idxOf? f = none) (hfn : C.prog.funcs[f]? = some fn)
    (witness : ∃ (w : World) (tape : Tape) (i : Input), w.os = os ∧ (w.forCall tape i).Shaped C.prog ∧ i.vars = [] ∧ Input.okWide C.prog (w.forCall tape i) .any w.heap.size f i ∧
      ((s.pre enc C.prog fn conds apart (w.forCall tape i).memory i.args ∧ X (w.forCall tape i).memory i.args) ∧ sizedMet enc C.prog fn s apart (w.forCall tape i).memory i.args) ∧ a.holds C.prog (lone (Frame.enter C.prog f i.args .normal) [] (w.forCall tape i)))
    (contract : ∀ (W : World) (base : Nat) (args : Array Value) (ds gs : List (DataW H)) (before : List MemPlace),
      (∀ (j : Nat) t v, fn.params[j]? = some t → args[j]? = some v → Value.okWide C.prog W .any base t v) →
      DataW.Whole enc C.prog fn.params.toList s.vars apart W args.toList ds gs before →
      conds.all (PathCond.test C.prog ⟨fn.params.toList, ds, s.bare.plain.varTypes C.prog, gs⟩) = true → k H (ds ++ gs) = true →
      (DataW.weightsEach C.prog (fn.params.toList ++ s.bare.plain.varTypes C.prog) (ds ++ gs)).all (· ≤ reachBytes) = true → X W args → W.ShapedOpen C.prog →
      Calls C.prog f args W fun e W' => ∃ v, e = .returned v ∧ (s.at F).post enc C.prog fn apart fresh handsOn again W args v W') :
    ReturnsInHanded a C os f .any (fun w args => (s.pre enc C.prog fn conds apart w args ∧ X w args) ∧ sizedMet enc C.prog fn s apart w args) ((s.at F).post enc C.prog fn apart fresh handsOn again) := by
  refine returnsInHanded_of_calls own started noInit witness ?_
  intro w tape i _ hsh _ hok hpre hholds
  obtain ⟨_, _, _, fn', hfn', _, _, _, _, hval⟩ := hok
  have e : fn' = fn := Option.some.inj (hfn'.symm.trans hfn)
  subst e
  obtain ⟨⟨hp, hx⟩, hz⟩ := hpre
  obtain ⟨ds, gs, before, hw, hc, hkk⟩ := (OpenSpec.pre_some hk conds apart _ _).1 hp
  have hw' := DataW.Whole.of_heap (w' := w.forCall tape i) (by rfl) hw
  refine (contract (w.forCall tape i) w.heap.size i.args ds gs before hval hw' hc hkk (hz.weights hw) (hX _ _ _ (by rfl) hx) hsh).mono fun e W' ⟨v, he, hp⟩ => ?_
  subst he
  exact ChangeSpec.post_blind hp
theorem witness_all {H : Type} {enc : TypeId × Value → H} {C : Checked} {os : Os} {f : FuncId} {fn : Func} {s : OpenSpec} {k : (H : Type) → List (DataW H) → Bool} (hk : s.cond = some k) {conds : List PathCond} {apart : Bool} {X : World → Array Value → Prop} (modest : Bool) (w0 : World) (args : Array Value) (fuel : Nat) (hos : w0.os = os)
    (hsh : (w0.forCall (fun _ _ => 0) ⟨#[], args, []⟩).Shaped C.prog)
    (hok : Input.okWideB C.prog (w0.forCall (fun _ _ => 0) ⟨#[], args, []⟩) f ⟨#[], args, []⟩ = true)
    {x : List (DataW H) × List (DataW H) × List MemPlace} (hx : DataW.whole enc C.prog (w0.forCall (fun _ _ => 0) ⟨#[], args, []⟩).memory fn.params.toList s.vars apart args.toList fuel = some x)
    (hconds : conds.all (PathCond.test C.prog ⟨fn.params.toList, x.1, s.bare.plain.varTypes C.prog, x.2.1⟩) = true) (hkk : k H (x.1 ++ x.2.1) = true)
    (hsz : s.bare.sizedB enc C.prog fn apart (w0.forCall (fun _ _ => 0) ⟨#[], args, []⟩).memory args fuel = true)
    (hl : X (w0.forCall (fun _ _ => 0) ⟨#[], args, []⟩).memory args) :
    ∃ (w : World) (tape : Tape) (i : Input), w.os = os ∧ (w.forCall tape i).Shaped C.prog ∧ i.vars = [] ∧ Input.okWide C.prog (w.forCall tape i) .any w.heap.size f i ∧
      ((s.pre enc C.prog fn conds apart (w.forCall tape i).memory i.args ∧ X (w.forCall tape i).memory i.args) ∧ sizedMet enc C.prog fn s apart (w.forCall tape i).memory i.args) ∧ ({ modest := modest } : Assume).holds C.prog (lone (Frame.enter C.prog f i.args .normal) [] (w.forCall tape i)) :=
  ⟨w0, fun _ _ => 0, ⟨#[], args, []⟩, hos, hsh, (Input.okWide_of_okWideB (base := 0) hok).1, (Input.okWide_of_okWideB hok).2,
    ⟨⟨(OpenSpec.pre_some hk conds apart _ _).2 ⟨x.1, x.2.1, x.2.2, DataW.Whole_of_whole hx, hconds, hkk⟩, hl⟩, sizedMet_of_sizedB hsz⟩, by
    simp only [Assume.holds]
    exact ⟨by simp, by simp, fun _ => Modest.zero, by simp, by simp⟩⟩
end Go.Proofs.YtgmdmfbdolbpnaaDoor.Pv
