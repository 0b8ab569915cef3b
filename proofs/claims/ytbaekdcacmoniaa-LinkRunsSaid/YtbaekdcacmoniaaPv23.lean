/- Arguments that are read as data, opened by their cells' type; a law's answer. -/
import Derived.Test.YtbaekdcacmoniaaPv22
import Derived.ChangeArms
import Derived.ChangeSlices
import Derived.Deep.Slices
import Derived.Deep.Fields
import Derived.ChangeSame
import Derived.SizedLaws
import Derived.DataReads
import Derived.OpenShut
namespace Go.Proofs.Ytbaekdcacmoniaa.Pv
open Go Go.RowKit Go.ChangeShapes Go.WideShapes Go.Deep

/-- The bounds that come with the reading. -/
def goodT (P : Program) : (t : Ty) → t.den → Prop
  | .int k, n => (Lit.int k n).wf = true
  | .bool, _ => True
  | .str, s => s.size ≤ 140737488351232
  | .list _ e t, l => l.length ≤ 9223372036854775807 ∧ l.length * P.bytesOf e ≤ 140737488351232 ∧ ∀ x, x ∈ l → goodT P t x
  | .prod a b, p => goodT P a p.1 ∧ goodT P b p.2
  | .unit, _ => True
  | .tag _ _ t, x => goodT P t x
/-- How many values and letters a value holds. -/
def bulkT : (t : Ty) → t.den → Nat
  | .int _, _ => 1
  | .bool, _ => 1
  | .str, s => s.size + 1
  | .list _ _ t, l => (l.map (bulkT t)).sum + 1
  | .prod a b, p => bulkT a p.1 + bulkT b p.2
  | .unit, _ => 0
  | .tag _ _ t, x => bulkT t x
/-- What a measure of readings must do. -/
structure Bulk {H : Type} (B : DataW H → Nat) : Prop where
  one : ∀ d, 1 ≤ B d
  str : ∀ bytes, bytes.length + 1 ≤ B (.lit (.string bytes))
  slice : ∀ elems spare, (elems.map B).sum + 1 ≤ B (.slice elems spare)
  agg : ∀ parts, (parts.map B).sum ≤ B (.agg parts)
def fitsF (P : Program) (fits : TypeId → Ty → Bool) : List Field → Nat → Ty → Bool
  | [], _, _ => false
  | [f], o, t => Nat.beq f.offset o && Nat.beq (P.cellsOf f.type) t.sz && fits f.type t
  | f :: g :: r, o, .prod a b => Nat.beq f.offset o && Nat.beq (P.cellsOf f.type) a.sz && fits f.type a && fitsF P fits (g :: r) (o + a.sz) b
  | _ :: _ :: _, _, _ => false
def fitsT (P : Program) : Nat → TypeId → Ty → Bool
  | 0, _, _ => false
  | n + 1, t, τ =>
    match P.underlying t with
    | some (.int k) => (match τ with | .int k' => decide (k = k') | _ => false)
    | some .bool => (match τ with | .bool => true | _ => false)
    | some .string => (match τ with | .str => true | _ => false)
    | some (.slice e) => (match τ with | .list _ e' t' => Nat.beq e e' && Nat.beq (P.cellsOf e) t'.sz && Nat.ble 1 t'.sz && fitsT P n e t' | _ => false)
    | some (.struct fs) => Nat.beq (P.cellsOf t) τ.sz && fitsF P (fitsT P n) fs.toList 0 τ
    | _ => false
theorem list_of {α : Type} {p : Nat → α → Prop} : ∀ n : Nat, (∀ i, i < n → ∃ a, p i a) → ∃ xs : List α, xs.length = n ∧ ∀ i a, xs[i]? = some a → p i a
  | 0, _ => ⟨[], rfl, fun i a h => by simp at h⟩
  | n + 1, h => by
    obtain ⟨xs, hl, hp⟩ := list_of n (fun i hi => h i (by omega))
    obtain ⟨a, ha⟩ := h n (by omega)
    refine ⟨xs ++ [a], by simp [hl], fun i b hb => ?_⟩
    by_cases hi : i < xs.length
    · rw [List.getElem?_append_left hi] at hb
      exact hp i b hb
    · have hi2 : i = xs.length := by
        have := (List.getElem?_eq_some_iff.1 hb).1
        simp at this
        omega
      subst hi2
      simp at hb
      subst hb
      rw [hl]
      exact ha
theorem weightsAll_mem {H : Type} {P : Program} {e : TypeId} : ∀ {l : List (DataW H)} {d : DataW H}, d ∈ l → ∀ n ∈ d.weights P e, n ∈ DataW.weightsAll P e l
  | d0 :: l, d, hd, n, hn => by
    simp only [DataW.weightsAll, List.mem_append]
    rcases List.mem_cons.1 hd with rfl | hd
    · exact .inl hn
    · exact .inr (weightsAll_mem hd n hn)
  | [], _, hd, _, _ => by simp at hd
theorem sum_le {l m : List Nat} (hl : l.length = m.length) (h : ∀ i (h1 : i < l.length) (h2 : i < m.length), l[i] ≤ m[i]) : l.sum ≤ m.sum := by
  induction l generalizing m with
  | nil => simp
  | cons x l ih =>
    cases m with
    | nil => cases hl
    | cons y m =>
      have h0 := h 0 (by simp) (by simp)
      have := ih (m := m) (by simpa using hl) (fun i h1 h2 => h (i + 1) (Nat.succ_lt_succ h1) (Nat.succ_lt_succ h2))
      simp only [List.sum_cons]
      simp at h0
      omega
theorem cell_lt {w : World} {a : Addr} {v : Value} (h : w.cell? a = some v) : a.block < w.heap.size := by
  unfold World.cell? at h
  split at h
  · rename_i hb
    exact (Array.getElem?_eq_some_iff.1 hb).1
  · cases h
section
variable {H : Type} {enc : TypeId × Value → H} {P : Program} {W : World} {base : Nat} {spare : Nat → Bool} {held : Bool}
def none_ : Nat → Prop := fun _ => False
/-- Whatever reads as data at type t is a value of this type. -/
def Rds (enc : TypeId × Value → H) (P : Program) (W : World) (base : Nat) (spare : Nat → Bool) (held : Bool) (t : TypeId) (τ : Ty) : Prop :=
  ∀ (fuel : Nat) (cs : List Value) (x : DataW H × List MemPlace), DataW.trod enc P W base spare held fuel t cs = some x → (∀ n ∈ x.1.weights P t, n ≤ reachBytes) → ∃ a : τ.den, RdC none_ W τ a cs ∧ goodT P τ a ∧ ∀ B : DataW H → Nat, Bulk B → bulkT τ a ≤ B x.1
def RdsF (enc : TypeId × Value → H) (P : Program) (W : World) (base : Nat) (spare : Nat → Bool) (held : Bool) (fs : List Field) (o : Nat) (τ : Ty) : Prop :=
  ∀ (n : Nat) (cs : List Value) (xs : List (DataW H × List MemPlace)), xs.length = fs.length → cs.length = o + τ.sz →
    (∀ (i : Nat) (f : Field), fs[i]? = some f → DataW.trod enc P W base spare held n f.type ((cs.drop f.offset).take (P.cellsOf f.type)) = xs[i]?) →
    (∀ n ∈ DataW.weightsEach P (fs.map (·.type)) (xs.map (·.1)), n ≤ reachBytes) → ∃ a : τ.den, RdC none_ W τ a (cs.drop o) ∧ goodT P τ a ∧ ∀ B : DataW H → Nat, Bulk B → bulkT τ a ≤ ((xs.map (·.1)).map B).sum
theorem rds_slice {t e : TypeId} {o : Bool} {τ : Ty} (ht : P.underlying t = some (.slice e)) (hC : P.cellsOf e = τ.sz) (h1 : 1 ≤ τ.sz) (hd : Rds enc P W base spare held e τ) : Rds enc P W base spare held t (.list o e τ) := by
  intro fuel cs x h hw
  rcases open_slice ht h with ⟨rfl, rfl⟩ | ⟨a, len, cap, m, n, D, Pl, rfl, hb, hl, hm, hmm, rfl, hi⟩
  · exact ⟨[], RdC_list_nil, by rw [goodT]; simp, fun B hB => hB.one _⟩
  · have hlm : len ≤ m := by rw [hmm]; split <;> omega
    simp only [DataW.weights, ht, List.mem_cons, List.mem_append] at hw
    have hel : ∀ i, i < len → ∃ a' : τ.den, (∃ cs' : List Value, cs'.length = τ.sz ∧ RdC none_ W τ a' cs' ∧ ∀ j u, cs'[j]? = some u → W.cell? (a.add (i * τ.sz + j)) = some u) ∧ goodT P τ a' ∧ ∀ B : DataW H → Nat, Bulk B → bulkT τ a' ≤ B (D i) := by
      intro i hil
      obtain ⟨cs', hc, ht'⟩ := hi i (by omega)
      rw [hC] at hc
      obtain ⟨_, hcl, hat⟩ := World.cells?_some hc
      obtain ⟨a', hK, hg⟩ := hd n cs' _ ht' (fun q hq => hw q (.inr (.inl (weightsAll_mem (List.mem_map.2 ⟨i, List.mem_range.2 hil, rfl⟩) q hq))))
      refine ⟨a', ⟨cs', hcl, hK, fun j u hj => ?_⟩, hg⟩
      have hjl : j < τ.sz := by
        have := (List.getElem?_eq_some_iff.1 hj).1
        omega
      rw [← Go.Deep.add_add, hat j hjl, hj]
    obtain ⟨xs, hxl, hxs⟩ := list_of len hel
    have h0 := hw _ (.inl rfl)
    have hlen : len * P.bytesOf e ≤ 140737488351232 := by
      have h1 : len * P.bytesOf e ≤ (((List.range len).map D).length + ((List.range (m - len)).map fun j => D (len + j)).length) * P.bytesOf e := Nat.mul_le_mul_right _ (by simp)
      have h2 : reachBytes = 140737488351232 := rfl
      omega
    have hmx : maxLen = 9223372036854775807 := rfl
    refine ⟨xs, ?_, ?_, fun B hB => ?_⟩
    · rw [RdC.eq_def]
      refine ⟨some a, cap, by rw [hxl], by omega, by omega, fun q => (by cases q), fun j p hj => ?_⟩
      obtain ⟨⟨cs', h1', h2, h3⟩, _⟩ := hxs j p hj
      refine ⟨a, cs', rfl, id, ?_, h1', h2, h3⟩
      have : ∃ u, cs'[0]? = some u := by
        cases cs' with
        | nil => simp at h1'; omega
        | cons u _ => exact ⟨u, rfl⟩
      obtain ⟨u, hu⟩ := this
      have := cell_lt (h3 0 u hu)
      rw [block_add] at this
      exact this
    · rw [goodT]
      refine ⟨by omega, by rw [hxl]; exact hlen, fun p hp => ?_⟩
      obtain ⟨i, hi, rfl⟩ := List.getElem_of_mem hp
      exact (hxs i _ (List.getElem?_eq_getElem hi)).2.1
    · rw [bulkT]
      have hs := hB.slice ((List.range len).map D) ((List.range (m - len)).map fun j => D (len + j))
      have : (xs.map (bulkT τ)).sum ≤ (((List.range len).map D).map B).sum := by
        rw [List.map_map]
        exact sum_le (by simp [hxl]) fun i hi1 hi2 => by
          simp only [List.getElem_map, List.getElem_range, Function.comp]
          exact (hxs i _ (List.getElem?_eq_getElem (by simpa using hi1))).2.2 B hB
      exact Nat.le_trans (Nat.succ_le_succ this) hs
theorem rdsF_of {fits : TypeId → Ty → Bool} (hf : ∀ t τ, fits t τ = true → Rds enc P W base spare held t τ) : ∀ (fs : List Field) (o : Nat) (τ : Ty), fitsF P fits fs o τ = true → RdsF enc P W base spare held fs o τ
  | [], _, _, h => by rw [fitsF] at h; cases h
  | [f], o, τ, h => by
    rw [fitsF, Bool.and_eq_true, Bool.and_eq_true] at h
    obtain ⟨⟨ho, hC⟩, h⟩ := h
    have ho : f.offset = o := by simpa using ho
    have hC : P.cellsOf f.type = τ.sz := by simpa using hC
    intro n cs xs hx hl hff hw
    match xs, hx with
    | [y], _ =>
      have h0 := hff 0 f rfl
      rw [ho, hC, List.take_of_length_le (by simp; omega)] at h0
      obtain ⟨a, h1, h2, h3⟩ := hf _ _ h n _ y (by simpa using h0) (fun m hm => hw m (by simp [DataW.weightsEach, hm]))
      exact ⟨a, h1, h2, fun B hB => by simpa using h3 B hB⟩
  | f :: g :: r, o, .prod a b, h => by
    rw [fitsF, Bool.and_eq_true, Bool.and_eq_true, Bool.and_eq_true] at h
    obtain ⟨⟨⟨ho, hC⟩, h0⟩, h1⟩ := h
    have ho : f.offset = o := by simpa using ho
    have hC : P.cellsOf f.type = a.sz := by simpa using hC
    have ih := rdsF_of hf (g :: r) (o + a.sz) b h1
    intro n cs xs hx hl hff hw
    have hl' : cs.length = o + (a.sz + b.sz) := hl
    match xs, hx with
    | y :: ys, hx =>
      have e0 := hff 0 f rfl
      rw [ho, hC] at e0
      simp only [List.map_cons, DataW.weightsEach, List.mem_append] at hw
      obtain ⟨p, hp, gp, bp⟩ := hf _ _ h0 n _ y (by simpa using e0) (fun m hm => hw m (.inl hm))
      obtain ⟨q, hq, gq, bq⟩ := ih n cs ys (by simpa using hx) (by omega) (fun i f' hi => by simpa using hff (i + 1) f' (by simpa using hi)) (fun m hm => hw m (.inr hm))
      refine ⟨(p, q), ?_, by rw [goodT]; exact ⟨gp, gq⟩, fun B hB => by
        have h1 := bp B hB
        have h2 := bq B hB
        simp only [List.map_cons, List.sum_cons, bulkT]
        omega⟩
      rw [RdC.eq_def]
      refine ⟨_, _, ?_, hp, hq⟩
      rw [← List.drop_drop]
      exact (List.take_append_drop _ _).symm
  | f :: g :: r, o, .int _, h => by rw [fitsF] at h <;> first | cases h; done | nofun
  | f :: g :: r, o, .bool, h => by rw [fitsF] at h <;> first | cases h; done | nofun
  | f :: g :: r, o, .str, h => by rw [fitsF] at h <;> first | cases h; done | nofun
  | f :: g :: r, o, .list _ _ _, h => by rw [fitsF] at h <;> first | cases h; done | nofun
  | f :: g :: r, o, .unit, h => by rw [fitsF] at h <;> first | cases h; done | nofun
theorem reads : ∀ (n : Nat) (t : TypeId) (τ : Ty), fitsT P n t τ = true → Rds enc P W base spare held t τ
  | 0, _, _, h => by rw [fitsT] at h; cases h
  | n + 1, t, τ, h => by
    unfold fitsT at h
    split at h
    · rename_i k hu
      cases τ <;> first | (cases h; done) | skip
      rename_i k'
      have : k = k' := by simpa using h
      subst this
      intro fuel cs x hx _
      obtain ⟨m, rfl, _, hw⟩ := DataW.trod_int hu hx
      exact ⟨m, by rw [RdC.eq_def], by rw [goodT]; exact hw, fun B hB => hB.one _⟩
    · rename_i hu
      cases τ <;> first | (cases h; done) | skip
      intro fuel cs x hx _
      obtain ⟨b, rfl, _⟩ := DataW.trod_bool hu hx
      exact ⟨b, by rw [RdC.eq_def], by rw [goodT]; trivial, fun B hB => hB.one _⟩
    · rename_i hu
      cases τ <;> first | (cases h; done) | skip
      intro fuel cs x hx hw
      obtain ⟨s, rfl, rfl, _⟩ := DataW.trod_string hu hx
      exact ⟨s, by rw [RdC.eq_def], by rw [goodT]; simpa [DataW.weights, reachBytes] using hw, fun B hB => by
        have := hB.str s.data.toList
        rw [bulkT]
        rw [Array.length_toList] at this
        exact this⟩
    · rename_i e hu
      cases τ <;> first | (cases h; done) | skip
      rename_i o e' t'
      rw [Bool.and_eq_true, Bool.and_eq_true, Bool.and_eq_true] at h
      obtain ⟨⟨⟨h1, h2⟩, h3⟩, h4⟩ := h
      have h1 : e = e' := by simpa using h1
      subst h1
      exact rds_slice hu (by simpa using h2) (by simpa using h3) (reads n e t' h4)
    · rename_i fs hu
      rw [Bool.and_eq_true] at h
      obtain ⟨l⟩ := fs
      have hC : P.cellsOf t = τ.sz := by simpa using h.1
      have hF := rdsF_of (fun t τ => reads n t τ) l 0 τ h.2
      intro fuel cs x hx hw
      obtain ⟨xs, m, _, rfl, hcl, hxl, hff⟩ := DataW.trod_struct hu hx
      simp only [DataW.weights, hu] at hw
      obtain ⟨a, ha, ga, ba⟩ := hF m cs xs (by simpa using hxl) (by omega) (fun i f hi => hff i f (by simpa using hi)) hw
      exact ⟨a, by simpa using ha, ga, fun B hB => Nat.le_trans (ba B hB) (hB.agg _)⟩
    · cases h
def argPV (P : Program) (t : TypeId) (τ : Ty) (a : τ.den) : PV :=
  match P.underlying t with
  | some (.struct _) => .agg (cells τ a)
  | _ => nth (cells τ a) 0
theorem arg_open {t : TypeId} {τ : Ty} {r : Reach} {b0 : Nat} {v : Value} {x : DataW H} {p : List MemPlace} (hf : fitsT P 20 t τ = true) (hval : Value.okWide P W r b0 t v) (hT : DataW.Trod enc P W base spare held t v x p) {ts : List TypeId} {ds : List (DataW H)} (hsz : (DataW.weightsEach P ts ds).all (· ≤ reachBytes) = true) {j : Nat} (ht : ts[j]? = some t) (hd : ds[j]? = some x) :
    ∃ a : τ.den, VR (fun _ => undef) none_ W (argPV P t τ a) v ∧ goodT P τ a ∧ ∀ B : DataW H → Nat, Bulk B → bulkT τ a ≤ B x := by
  obtain ⟨fuel, hfu⟩ := hT
  obtain ⟨a, ha, ga, ba⟩ := reads 20 t τ hf fuel _ _ hfu (fun n hn => by simpa using List.all_eq_true.1 hsz n (DataW.weights_mem_each ht hd n hn))
  refine ⟨a, ?_, ga, ba⟩
  have single : v.cells = #[v] → VR (fun _ => undef) none_ W (nth (cells τ a) 0) v := by
    intro e
    rw [e] at ha
    have h3 : VRs (fun _ => undef) none_ W (cells τ a) [v] := VRs_cells ha
    revert h3
    cases cells τ a with
    | nil => intro h3; rw [VRs] at h3; cases h3
    | cons q qs =>
      intro h3
      rw [VRs] at h3
      obtain ⟨v', r', e3, h4, _⟩ := h3
      cases e3
      exact h4
  unfold argPV
  unfold fitsT at hf
  split at hf
  · rename_i k hu
    obtain ⟨n, rfl⟩ := okWide_int hu hval
    rw [hu]
    exact single rfl
  · rename_i hu
    obtain ⟨n, rfl⟩ := okWide_bool hu hval
    rw [hu]
    exact single rfl
  · rename_i hu
    obtain ⟨n, rfl⟩ := okWide_string hu hval
    rw [hu]
    exact single rfl
  · rename_i e hu
    obtain ⟨A, l, k, rfl⟩ := okWide_slice hu hval
    rw [hu]
    exact single rfl
  · rename_i fs hu
    obtain ⟨cs, rfl, _⟩ := okWide_struct hu hval
    rw [hu]
    simp only
    rw [VR]
    exact ⟨cs, rfl, VRs_cells ha⟩
  · cases hf
theorem vrs_nil {ρ : Nat → Value} {own : Nat → Prop} : VRs ρ own W [] [] := by rw [VRs]
theorem vrs_cons {ρ : Nat → Value} {own : Nat → Prop} {p : PV} {ps : List PV} {v : Value} {vs : List Value} (h : VR ρ own W p v) (k : VRs ρ own W ps vs) : VRs ρ own W (p :: ps) (v :: vs) := by
  rw [VRs]
  exact ⟨v, vs, rfl, h, k⟩
theorem post_bool {fn : Func} {rt : TypeId} {w : World} {F : Nat → Prop} {b : Bool} (hrt : fn.resultTypes.toList = [rt]) (ha : aggT P rt = some false) {e : Ending} {w1 : World} (h : Post P fn .bool w F b e w1) : e = .returned (.bool b) ∧ Below w.heap.size w w1 := by
  cases e with
  | returned v =>
    obtain ⟨own1, gs, us, rfl, hb, _, _, _, hres, hsh⟩ := h
    rw [hrt] at hsh
    cases us with
    | nil => rw [Shapes] at hsh <;> first | exact hsh.elim | nofun
    | cons u us =>
      cases us with
      | cons _ _ => rw [Shapes] at hsh; have := hsh.2; rw [Shapes] at this <;> first | exact this.elim | nofun
      | nil =>
        rw [Shapes] at hsh
        have h1 := hsh.1
        unfold Shape at h1
        rw [ha] at h1
        simp only at h1
        rw [ResR.eq_def] at hres
        have h2 := hres.2
        rw [List.flatMap_cons, h1] at h2
        have h3 : u = .bool b := by simpa using h2
        subst h3
        exact ⟨rfl, hb.below⟩
  | panicked chain => exact h.elim
  | outgrown => exact h.elim
end
end Go.Proofs.Ytbaekdcacmoniaa.Pv
