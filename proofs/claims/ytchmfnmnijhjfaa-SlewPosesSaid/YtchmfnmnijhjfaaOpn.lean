/- An argument that is read as data, opened by its kind: a Lean value of the kind whose cells are the argument's, and the bounds that come with the reading. -/
import Derived.Test.YtchmfnmnijhjfaaWMore
import Derived.ChangeArms
import Derived.ChangeSlices
import Derived.Deep.Slices
import Derived.Deep.Fields
import Derived.ChangeSame
import Derived.SizedLaws
import Derived.DataReads
namespace Go.Proofs.Ytchmfnmnijhjfaa.Opn
open Go.RowKit Go.Proofs.YtchmfnmnijhjfaaW.PrintWords Go.ChangeShapes Go.WideShapes Go.Deep

theorem list_of {α : Type} {p : Nat → α → Prop} : ∀ n : Nat, (∀ i, i < n → ∃ a, p i a) → ∃ xs : List α, xs.length = n ∧ ∀ i a, xs[i]? = some a → p i a
  | 0, _ => ⟨[], rfl, fun i a h => by simp at h⟩
  | n + 1, h => by
    obtain ⟨xs, hl, hp⟩ := list_of n (fun i hi => h i (by omega))
    obtain ⟨a, ha⟩ := h n (by omega)
    refine ⟨xs ++ [a], by simp [hl], fun i b hb => ?_⟩
    by_cases hi : i < xs.length
    · rw [List.getElem?_append_left hi] at hb
      exact hp i b hb
    · have hi2 : i = xs.length := by
        have := (List.getElem?_eq_some_iff.1 hb).1
        simp at this
        omega
      subst hi2
      simp at hb
      subst hb
      rw [hl]
      exact ha

theorem weightsAll_mem {H : Type} {P : Program} {e : TypeId} : ∀ {l : List (DataW H)} {d : DataW H}, d ∈ l → ∀ n ∈ d.weights P e, n ∈ DataW.weightsAll P e l
  | d0 :: l, d, hd, n, hn => by
    simp only [DataW.weightsAll, List.mem_append]
    rcases List.mem_cons.1 hd with rfl | hd
    · exact .inl hn
    · exact .inr (weightsAll_mem hd n hn)
  | [], _, hd, _, _ => by simp at hd

section
variable {H : Type} {enc : TypeId × Value → H} {P : Program} {W : World} {base : Nat} {spare : Nat → Bool} {held : Bool}

/-- Whatever reads as data at type t is a value of kind d. -/
def Rds (enc : TypeId × Value → H) (P : Program) (W : World) (base : Nat) (spare : Nat → Bool) (held : Bool) (t : TypeId) {α : Type} (d : Kd α) (good : α → Prop) : Prop :=
  ∀ (fuel : Nat) (cs : List Value) (x : DataW H × List MemPlace), DataW.trod enc P W base spare held fuel t cs = some x → (∀ n ∈ x.1.weights P t, n ≤ reachBytes) → ∃ a : α, d.K W a cs ∧ good a

theorem rds_int {t : TypeId} {k : IntKind} (ht : P.underlying t = some (.int k)) : Rds enc P W base spare held t (Kd.int k) (fun n => (Lit.int k n).wf = true) := by
  intro fuel cs x h _
  obtain ⟨n, rfl, _, hw⟩ := DataW.trod_int ht h
  exact ⟨n, rfl, hw⟩
theorem rds_bool {t : TypeId} (ht : P.underlying t = some .bool) : Rds enc P W base spare held t Kd.bool (fun _ => True) := by
  intro fuel cs x h _
  obtain ⟨b, rfl, _⟩ := DataW.trod_bool ht h
  exact ⟨b, rfl, trivial⟩
theorem rds_string {t : TypeId} (ht : P.underlying t = some .string) : Rds enc P W base spare held t Kd.string (fun s => s.size ≤ 140737488351232) := by
  intro fuel cs x h hw
  obtain ⟨s, rfl, rfl, _⟩ := DataW.trod_string ht h
  exact ⟨s, rfl, by simpa [DataW.weights, reachBytes] using hw⟩
theorem rds_mono {t : TypeId} {α : Type} {d : Kd α} {good good' : α → Prop} (h : Rds enc P W base spare held t d good) (hg : ∀ a, good a → good' a) : Rds enc P W base spare held t d good' := by
  intro fuel cs x hx hw
  obtain ⟨a, ha, g⟩ := h fuel cs x hx hw
  exact ⟨a, ha, hg a g⟩
theorem rds_iso {t : TypeId} {α β : Type} {d : Kd α} {good : α → Prop} (f : β → α) (g : α → β) (hfg : ∀ a, f (g a) = a) (h : Rds enc P W base spare held t d good) : Rds enc P W base spare held t (Kd.iso d f) (fun b => good (f b)) := by
  intro fuel cs x hx hw
  obtain ⟨a, ha, hg⟩ := h fuel cs x hx hw
  refine ⟨g a, ?_, ?_⟩
  · show d.K W (f (g a)) cs
    rw [hfg]
    exact ha
  · show good (f (g a))
    rw [hfg]
    exact hg
theorem rds_slice {t e e' : TypeId} {α : Type} {d : Kd α} {good : α → Prop} {B : Nat} (ht : P.underlying t = some (.slice e)) (hC : P.cellsOf e = d.sz) (hB : P.bytesOf e = B) (hd : Rds enc P W base spare held e d good) :
    Rds enc P W base spare held t (Kd.slice e' d) (fun xs => xs.length ≤ maxLen ∧ xs.length * B ≤ 140737488351232 ∧ ∀ x ∈ xs, good x) := by
  intro fuel cs x h hw
  rcases open_slice ht h with ⟨rfl, rfl⟩ | ⟨a, len, cap, m, n, D, Pl, rfl, hb, hl, hm, hmm, rfl, hi⟩
  · exact ⟨[], ⟨none, 0, rfl, Nat.le_refl _, Kd.C_nil d W⟩, by simp, by simp, by simp⟩
  · have hlm : len ≤ m := by rw [hmm]; split <;> omega
    simp only [DataW.weights, ht, List.mem_cons, List.mem_append] at hw
    have hel : ∀ i, i < len → ∃ a' : α, (∃ cs' : List Value, cs'.length = d.sz ∧ d.K W a' cs' ∧ ∀ j u, cs'[j]? = some u → W.cell? (a.add (i * d.sz + j)) = some u) ∧ good a' := by
      intro i hil
      obtain ⟨cs', hc, ht'⟩ := hi i (by omega)
      rw [hC] at hc
      obtain ⟨_, hcl, hat⟩ := World.cells?_some hc
      obtain ⟨a', hK, hg⟩ := hd n cs' _ ht' (fun q hq => hw q (.inr (.inl (weightsAll_mem (List.mem_map.2 ⟨i, List.mem_range.2 hil, rfl⟩) q hq))))
      refine ⟨a', ⟨cs', hcl, hK, fun j u hj => ?_⟩, hg⟩
      have hjl : j < d.sz := by
        have := (List.getElem?_eq_some_iff.1 hj).1
        omega
      rw [← Go.Deep.add_add, hat j hjl, hj]
    obtain ⟨xs, hxl, hxs⟩ := list_of len hel
    have h0 := hw _ (.inl rfl)
    have hlen : len * B ≤ 140737488351232 := by
      rw [hB] at h0
      have h1 : len * B ≤ (((List.range len).map D).length + ((List.range (m - len)).map fun j => D (len + j)).length) * B := Nat.mul_le_mul_right _ (by simp)
      have h2 : reachBytes = 140737488351232 := rfl
      omega
    have hmx : maxLen = 9223372036854775807 := rfl
    refine ⟨xs, ⟨some a, cap, ?_, by omega, rfl, by omega, fun _ => ⟨a, rfl, fun j p hj => ?_⟩⟩, by omega, by rw [hxl]; exact hlen, fun p hp => ?_⟩
    · rw [hxl]
    · obtain ⟨⟨cs', h1, h2, h3⟩, _⟩ := hxs j p hj
      exact ⟨cs', h1, h2, h3⟩
    · obtain ⟨i, hi, rfl⟩ := List.getElem_of_mem hp
      exact (hxs i _ (List.getElem?_eq_getElem hi)).2

/-- The fields of a struct, from cell o on. -/
def RdsF (enc : TypeId × Value → H) (P : Program) (W : World) (base : Nat) (spare : Nat → Bool) (held : Bool) (fs : List Field) (o : Nat) {α : Type} (d : Kd α) (good : α → Prop) : Prop :=
  ∀ (n : Nat) (cs : List Value) (xs : List (DataW H × List MemPlace)), xs.length = fs.length → cs.length = o + d.sz →
    (∀ (i : Nat) (f : Field), fs[i]? = some f → DataW.trod enc P W base spare held n f.type ((cs.drop f.offset).take (P.cellsOf f.type)) = xs[i]?) →
    (∀ n ∈ DataW.weightsEach P (fs.map (·.type)) (xs.map (·.1)), n ≤ reachBytes) → ∃ a, d.K W a (cs.drop o) ∧ good a
theorem rdsF_one {f : Field} {o : Nat} {α : Type} {d : Kd α} {good : α → Prop} (ho : f.offset = o) (hC : P.cellsOf f.type = d.sz) (h : Rds enc P W base spare held f.type d good) : RdsF enc P W base spare held [f] o d good := by
  intro n cs xs hx hl hf hw
  match xs, hx with
  | [y], _ =>
    have h0 := hf 0 f rfl
    rw [ho, hC, List.take_of_length_le (by simp; omega)] at h0
    exact h n _ y (by simpa using h0) (fun m hm => hw m (by simp [DataW.weightsEach, hm]))
theorem rdsF_cons {f : Field} {fs : List Field} {o : Nat} {α β : Type} {d0 : Kd α} {d1 : Kd β} {g0 : α → Prop} {g1 : β → Prop} (ho : f.offset = o) (hC : P.cellsOf f.type = d0.sz) (h0 : Rds enc P W base spare held f.type d0 g0)
    (h1 : RdsF enc P W base spare held fs (o + d0.sz) d1 g1) : RdsF enc P W base spare held (f :: fs) o (Kd.pair d0 d1) (fun p => g0 p.1 ∧ g1 p.2) := by
  intro n cs xs hx hl hf hw
  have hl' : cs.length = o + (d0.sz + d1.sz) := hl
  match xs, hx with
  | y :: ys, hx =>
    have e0 := hf 0 f rfl
    rw [ho, hC] at e0
    simp only [List.map_cons, DataW.weightsEach, List.mem_append] at hw
    obtain ⟨a, ha, ga⟩ := h0 n _ y (by simpa using e0) (fun m hm => hw m (.inl hm))
    obtain ⟨b, hb, gb⟩ := h1 n cs ys (by simpa using hx) (by omega) (fun i f' hi => by simpa using hf (i + 1) f' (by simpa using hi)) (fun m hm => hw m (.inr hm))
    refine ⟨(a, b), ⟨_, _, ?_, ha, hb⟩, ga, gb⟩
    rw [← List.drop_drop]
    exact (List.take_append_drop _ _).symm
theorem rds_struct {t : TypeId} {fs : Array Field} {l : List Field} {α : Type} {d : Kd α} {good : α → Prop} (ht : P.underlying t = some (.struct fs)) (hl : fs = ⟨l⟩) (hC : P.cellsOf t = d.sz) (h : RdsF enc P W base spare held l 0 d good) : Rds enc P W base spare held t d good := by
  subst hl
  intro fuel cs x hx hw
  obtain ⟨xs, n, _, rfl, hcl, hxl, hf⟩ := DataW.trod_struct ht hx
  simp only [DataW.weights, ht] at hw
  obtain ⟨a, ha, ga⟩ := h n cs xs (by simpa using hxl) (by omega) (fun i f hi => hf i f (by simpa using hi)) hw
  exact ⟨a, by simpa using ha, ga⟩
theorem rds_arg {t : TypeId} {α : Type} {d : Kd α} {good : α → Prop} (h : Rds enc P W base spare held t d good) {ts : List TypeId} {ds : List (DataW H)} {j : Nat} (hsz : (DataW.weightsEach P ts ds).all (· ≤ reachBytes) = true) {v : Value} {x : DataW H} {p : List MemPlace}
    (ht : ts[j]? = some t) (hd : ds[j]? = some x) (hT : DataW.Trod enc P W base spare held t v x p) : ∃ a, d.K W a v.cells.toList ∧ good a := by
  obtain ⟨fuel, hf⟩ := hT
  exact h fuel _ _ hf (fun n hn => by simpa using List.all_eq_true.1 hsz n (DataW.weights_mem_each ht hd n hn))
end
end Go.Proofs.Ytchmfnmnijhjfaa.Opn
