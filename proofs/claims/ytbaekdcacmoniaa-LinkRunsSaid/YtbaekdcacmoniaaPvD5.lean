/- A longer part: what each of its operations has come to. Who comes behind whom. -/
import Derived.Test.YtbaekdcacmoniaaPvD4
import Derived.Orders
import Derived.Test.YtbaekdcacmoniaaPvN1
namespace Go.Proofs.Ytbaekdcacmoniaa.Pv
open Go Go.RowKit

section
variable {R : Type} {r : R} {P : Program} {S : List (FuncId × FSig)} {callT : (f : FuncId) → (g : FSig) → List PV → Option g.res.den} {s : St}
/-- A store that has been carried out. -/
def GoodS (P : Program) (S : List (FuncId × FSig)) (callT : (f : FuncId) → (g : FSig) → List PV → Option g.res.den) (ops : List Oper) (ms : List Nat) (sl : List (Nat × Nat)) (s : St) (pre : List Rec) (x : Rec) (o : Oper) : Prop :=
  o.dst = none ∧ o.guard = none ∧ x.st = true ∧ x.p = .undef ∧ ∃ lab b, x.nb = [(lab, b)] ∧ x.us = [lab] ∧ ∀ m, Sub (seeS sl ms x.i pre (hide ops ms x.i s)) m → (look lab m.sto).isSome = true ∧ evOp P S callT m o (fun p s' => some (p, s')) = some (.undef, ⟨m.env, setb lab b m.sto⟩)
def Good (P : Program) (S : List (FuncId × FSig)) (callT : (f : FuncId) → (g : FSig) → List PV → Option g.res.den) (ops : List Oper) (ms : List Nat) (sl : List (Nat × Nat)) (s : St) (pre : List Rec) (x : Rec) : Prop :=
  ∃ o, ops[x.i]? = some o ∧ (GoodS P S callT ops ms sl s pre x o ∨ (o.dst = some x.d ∧ x.st = false ∧ ∀ m, Sub (seeS sl ms x.i pre (hide ops ms x.i s)) m →
    ((o.guard = none ∨ ∃ j want t, o.guard = some (j, want) ∧ dstAt ops j = some t ∧ nth m.env t = .bool want) ∧ ((∀ l, l ∈ lbls x → l ∉ x.us → Clean l m) → ∃ sto', (∀ j, look j sto' = look j (x.nb ++ dropL (gone x) m.sto)) ∧ evOp P S callT m o (fun p s' => some (p, s')) = some (x.p, ⟨m.env, sto'⟩))) ∨
    ∃ j want t, o.guard = some (j, want) ∧ dstAt ops j = some t ∧ ((∃ b, nth m.env t = .bool b ∧ b ≠ want) ∨ nth m.env t = .tuple []) ∧ x.p = .tuple [] ∧ x.nb = [] ∧ x.us = []))
theorem refine_id {t : Nat} {v : PV} : ∀ {recs : List Rec}, gval t recs = some v → refine_ t v recs = recs
  | [], h => by cases h
  | x :: recs, h => by
    rw [gval] at h
    rw [refine_]
    split at h
    · rename_i e
      cases h
      rw [if_pos e]
    · rename_i e
      rw [if_neg e, refine_id h]
theorem put_id : ∀ (l : List PV) (t : Nat), put l t (nth l t) = l
  | [], _ => rfl
  | x :: l, 0 => rfl
  | x :: l, t + 1 => by rw [nth, put, put_id l t]
theorem gsplit_some {t : Nat} {want : Bool} {recs : List Rec} {K : St → List Rec → Option R} (h : gsplit t want s recs K = some r) : K s recs = some r := by
  unfold gsplit at h
  split at h
  · rename_i v hv
    rcases guardV_some h with ⟨b, eb, h2⟩ | ⟨_, h2⟩
    case inr => exact h2
    clear h
    subst eb
    split at h2
    · rename_i e
      subst e
      rw [refine_id hv] at h2
      exact h2
    · rename_i e
      have : b = !want := by cases b <;> cases want <;> simp_all
      rw [← this, refine_id hv] at h2
      exact h2
  · rcases guardV_some h with ⟨b, e, h2⟩ | ⟨_, h2⟩
    case inr => exact h2
    clear h
    have h := h2
    have hid : s.puto (some t) (.bool b) = s := by
      show (⟨put s.env t (.bool b), s.sto⟩ : St) = s
      rw [← e, put_id]
    split at h
    · rename_i e
      subst e
      rw [hid] at h
      exact h
    · rename_i e
      have : b = !want := by cases b <;> cases want <;> simp_all
      rw [← this, hid] at h
      exact h
theorem evSeg_trace {ops : List Oper} {ms : List Nat} {sl : List (Nat × Nat)} {K : St → List Rec → Option R} : ∀ (l : List Nat) (recs : List Rec), evSeg P S callT ops ms sl l s recs K = some r →
    ∃ recs', K s (recs ++ recs') = some r ∧ recs'.map (·.i) = l ∧ ∀ pre x post, recs' = pre ++ x :: post → Good P S callT ops ms sl s (recs ++ pre) x
  | [], recs, h => by
    rw [evSeg] at h
    exact ⟨[], by rw [List.append_nil]; exact h, rfl, fun pre x post e => by cases pre <;> cases e⟩
  | i :: l, recs, h => by
    have wrap : ∀ x : Rec, x.i = i → Good P S callT ops ms sl s recs x → evSeg P S callT ops ms sl l s (recs ++ [x]) K = some r →
        ∃ recs', K s (recs ++ recs') = some r ∧ recs'.map (·.i) = i :: l ∧ ∀ pre x post, recs' = pre ++ x :: post → Good P S callT ops ms sl s (recs ++ pre) x := by
      intro x hx hg h
      obtain ⟨recs', h1, h2, h3⟩ := evSeg_trace l (recs ++ [x]) h
      refine ⟨x :: recs', by rw [List.append_assoc] at h1; exact h1, by rw [List.map_cons, h2, hx], fun pre y post e => ?_⟩
      cases pre with
      | nil =>
        cases e
        rw [List.append_nil]
        exact hg
      | cons z pre =>
        cases e
        have := h3 pre y post rfl
        rw [List.append_assoc] at this
        exact this
    rw [evSeg] at h
    split at h
    · cases h
    · rename_i o ho
      split at h
      · rename_i hd
        split at h
        case h_2 => cases h
        rename_i tt a x hg hop
        obtain ⟨lab, b, h, hl, hm⟩ := evStD_spec (S := S) (callT := callT) hop h
        refine wrap ⟨i, 1000000 + i, .undef, [(lab, b)], true, [lab]⟩ rfl ⟨o, ho, .inl ⟨hd, hg, rfl, rfl, lab, b, rfl, rfl, fun m hs => ⟨?_, hm m hs⟩⟩⟩ h
        rw [hs.isSome hl]
        exact hl
      · rename_i d hd
        split at h
        · rename_i hg
          obtain ⟨p, nb, us, h, _, hm⟩ := evOpD_spec h
          exact wrap ⟨i, d, p, nb, false, us⟩ rfl ⟨o, ho, .inr ⟨hd, rfl, fun m hs => .inl ⟨.inl hg, fun hc => hm m hs (fun l hl hu => hc l (List.mem_append_left _ hl) hu)⟩⟩⟩ h
        · rename_i j want hg
          split at h
          · cases h
          · rename_i t ht
            have h0 := gsplit_some h
            clear h
            have hread : ∀ v, nth (sumS (mbit (ms.getD i 0)) recs (hide ops ms i s)).env t = v → v ≠ .undef → ∀ m, Sub (seeS sl ms i recs (hide ops ms i s)) m → nth m.env t = v := fun v ev hne m hs => by
              rw [← see_env (sl := sl)] at ev
              rcases hs.env t with q | q
              · exact absurd (ev.symm.trans q) hne
              · rw [← q]
                exact ev
            rcases guardV_some h0 with ⟨b, eb, h⟩ | ⟨ev, h⟩
            case inr => exact wrap ⟨i, d, .tuple [], [], false, []⟩ rfl ⟨o, ho, .inr ⟨hd, rfl, fun m hs => .inr ⟨j, want, t, hg, ht, .inr (hread _ ev nofun m hs), rfl, rfl, rfl⟩⟩⟩ h
            clear h0
            have hb : ∀ m, Sub (seeS sl ms i recs (hide ops ms i s)) m → nth m.env t = .bool b := fun m hs => hread _ eb nofun m hs
            split at h
            · rename_i e
              subst e
              obtain ⟨p, nb, us, h, _, hm⟩ := evOpD_spec h
              exact wrap ⟨i, d, p, nb, false, us⟩ rfl ⟨o, ho, .inr ⟨hd, rfl, fun m hs => .inl ⟨.inr ⟨j, b, t, hg, ht, hb m hs⟩, fun hc => hm m hs (fun l hl hu => hc l (List.mem_append_left _ hl) hu)⟩⟩⟩ h
            · rename_i e
              exact wrap ⟨i, d, .tuple [], [], false, []⟩ rfl ⟨o, ho, .inr ⟨hd, rfl, fun m hs => .inr ⟨j, want, t, hg, ht, .inl ⟨b, hb m hs, e⟩, rfl, rfl, rfl⟩⟩⟩ h
end

theorem mbit_eq (m i : Nat) : mbit m i = m.testBit i := by
  rw [Nat.testBit_eq_decide_div_mod_eq]
  unfold mbit
  rw [show Nat.land (Nat.shiftRight m i) 1 = (m >>> i) &&& 1 from rfl, Nat.and_one_is_mod, Nat.shiftRight_eq_div_pow]
  by_cases h : m / 2 ^ i % 2 = 1
  · rw [h]
    rfl
  · have : m / 2 ^ i % 2 = 0 := by omega
    rw [this]
    rfl
theorem mbit_zero (i : Nat) : mbit 0 i = false := by rw [mbit_eq]; simp
theorem maskE_bit {ms : List Nat} {k : Nat} : ∀ {es : List Edge}, mbit (maskE ms es) k = true → ∃ e, e ∈ es ∧ Region.binds .any e = true ∧ (k = e.on ∨ mbit (ms.getD e.on 0) k = true)
  | [], h => by rw [maskE, mbit_zero] at h; cases h
  | e :: es, h => by
    rw [maskE] at h
    split at h
    · rename_i hb
      rw [mbit_eq] at h
      have h' : (((1 <<< e.on) ||| (ms.getD e.on 0)) ||| maskE ms es).testBit k = true := h
      rw [Nat.testBit_or, Nat.testBit_or, Bool.or_eq_true, Bool.or_eq_true] at h'
      rcases h' with (q | q) | q
      · rw [Nat.one_shiftLeft, Nat.testBit_two_pow] at q
        exact ⟨e, List.mem_cons_self, hb, .inl (by simpa using (show e.on = k by simpa using q).symm)⟩
      · exact ⟨e, List.mem_cons_self, hb, .inr (by rw [mbit_eq]; exact q)⟩
      · obtain ⟨e', h1, h2⟩ := maskE_bit (by rw [mbit_eq]; exact q)
        exact ⟨e', List.mem_cons_of_mem _ h1, h2⟩
    · obtain ⟨e', h1, h2⟩ := maskE_bit h
      exact ⟨e', List.mem_cons_of_mem _ h1, h2⟩
theorem masks_pre : ∀ (os : List Oper) (q : List Nat), (masks os q).length = q.length + os.length ∧ ∀ j, j < q.length → (masks os q).getD j 0 = q.getD j 0
  | [], q => ⟨rfl, fun _ _ => rfl⟩
  | o :: os, q => by
    obtain ⟨h1, h2⟩ := masks_pre os (q ++ [maskE q o.after.toList])
    refine ⟨by rw [masks, h1]; simp; omega, fun j hj => ?_⟩
    rw [masks, h2 j (by simp; omega), List.getD_eq_getElem?_getD, List.getD_eq_getElem?_getD, List.getElem?_append_left hj]
theorem masks_bit : ∀ (os : List Oper) (q : List Nat) (i : Nat) (o : Oper), os[i]? = some o → ∀ k, mbit ((masks os q).getD (q.length + i) 0) k = true →
    ∃ e, e ∈ o.after.toList ∧ Region.binds .any e = true ∧ (k = e.on ∨ mbit ((masks os q).getD e.on 0) k = true)
  | [], q, i, o, h, _, _ => by simp at h
  | o' :: os, q, 0, o, h, k, hk => by
    cases h
    rw [masks, (masks_pre os _).2 _ (by simp), List.getD_eq_getElem?_getD, Nat.add_zero, List.getElem?_append_right (Nat.le_refl _), Nat.sub_self] at hk
    obtain ⟨e, h1, h2, h3⟩ := maskE_bit (by simpa using hk)
    refine ⟨e, h1, h2, h3.imp id fun h3 => ?_⟩
    rw [masks]
    rcases Nat.lt_or_ge e.on q.length with hl | hl
    · rw [(masks_pre os _).2 _ (by simp; omega), List.getD_eq_getElem?_getD, List.getElem?_append_left hl, ← List.getD_eq_getElem?_getD]
      exact h3
    · rw [List.getD_eq_getElem?_getD, List.getElem?_eq_none hl, Option.getD_none, mbit_zero] at h3
      cases h3
  | o' :: os, q, i + 1, o, h, k, hk => by
    have := masks_bit os (q ++ [maskE q o'.after.toList]) i o (by simpa using h) k
    rw [masks] at hk ⊢
    rw [show q.length + (i + 1) = (q ++ [maskE q o'.after.toList]).length + i by simp; omega] at hk
    exact this hk
theorem boundOk_at : ∀ {os : List Oper} {n i : Nat} {o : Oper}, boundOk n os = true → os[i]? = some o → ∀ e, e ∈ o.after.toList → Region.binds .any e = true → e.on < n + i
  | [], _, _, _, _, h, _, _, _ => by simp at h
  | o' :: os, n, 0, o, hb, h, e, he, hbe => by
    cases h
    rw [boundOk, Bool.and_eq_true] at hb
    have := List.all_eq_true.1 hb.1 e he
    rw [hbe] at this
    have h2 : Nat.blt e.on n = true := by simpa using this
    simpa [Nat.blt_eq] using h2
  | o' :: os, n, i + 1, o, hb, h, e, he, hbe => by
    rw [boundOk, Bool.and_eq_true] at hb
    have := boundOk_at hb.2 (by simpa using h) e he hbe
    omega
/-- Whom an operation comes behind. -/
structure Behind (ops : List Oper) (ms : List Nat) : Prop where
  on : ∀ i o e, ops[i]? = some o → e ∈ o.after.toList → Region.binds .any e = true → e.on < i
  bit : ∀ i o k, ops[i]? = some o → mbit (ms.getD i 0) k = true → ∃ e, e ∈ o.after.toList ∧ Region.binds .any e = true ∧ (k = e.on ∨ mbit (ms.getD e.on 0) k = true)
  len : ms.length = ops.length
theorem Behind.of {ops : List Oper} (hb : boundOk 0 ops = true) : Behind ops (masks ops []) := by
  refine ⟨fun i o e ho he hbe => ?_, fun i o k ho hk => ?_, by rw [(masks_pre ops []).1]; simp⟩
  · have := boundOk_at hb ho e he hbe
    omega
  · exact masks_bit ops [] i o ho k (by simpa using hk)
theorem Behind.lt {ops : List Oper} {ms : List Nat} (h : Behind ops ms) : ∀ (i k : Nat), mbit (ms.getD i 0) k = true → k < i := by
  intro i
  induction i using Nat.strongRecOn with
  | _ i ih =>
    intro k hk
    cases ho : ops[i]? with
    | none =>
      rw [List.getD_eq_getElem?_getD, List.getElem?_eq_none (by rw [h.len]; simpa using ho), Option.getD_none, mbit_zero] at hk
      cases hk
    | some o =>
      obtain ⟨e, h1, h2, h3⟩ := h.bit i o k ho hk
      have hlt := h.on i o e ho h1 h2
      rcases h3 with q | q
      · omega
      · have := ih e.on hlt k q
        omega
end Go.Proofs.Ytbaekdcacmoniaa.Pv
