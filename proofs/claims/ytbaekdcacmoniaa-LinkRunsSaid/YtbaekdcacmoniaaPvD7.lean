/- A region, drawn or not. -/
import Derived.Test.YtbaekdcacmoniaaPvD6
namespace Go.Proofs.Ytbaekdcacmoniaa.Pv
open Go Go.RowKit

def PartsOk (ms : List Nat) (n : Nat) : Nat → List (List Nat) → Prop
  | k, [] => k = n
  | k, seg :: rest => seg = List.range' k seg.length ∧ k + seg.length ≤ n ∧ (∀ j, k + seg.length ≤ j → j < n → ∀ q, q < k + seg.length → mbit (ms.getD j 0) q = true) ∧ PartsOk ms n (k + seg.length) rest
theorem cutAt_bit {ms : List Nat} {e : Nat} (h : cutAt ms e = true) {j q : Nat} (hj : e ≤ j) (hl : j < ms.length) (hq : q < e) : mbit (ms.getD j 0) q = true := by
  have hm : ms.getD j 0 ∈ ms.drop e := by
    rw [List.getD_eq_getElem?_getD, List.getElem?_eq_getElem hl, Option.getD_some]
    rw [List.mem_iff_getElem]
    exact ⟨j - e, by simp; omega, by simp [show e + (j - e) = j by omega]⟩
  have := List.all_eq_true.1 h _ hm
  have h2 : (ms.getD j 0) &&& ((1 <<< e) - 1) = (1 <<< e) - 1 := by simpa using this
  rw [mbit_eq]
  have h3 : ((ms.getD j 0) &&& ((1 <<< e) - 1)).testBit q = true := by
    rw [h2, Nat.one_shiftLeft, Nat.testBit_two_pow_sub_one]
    simpa using hq
  rw [Nat.testBit_and, Bool.and_eq_true] at h3
  exact h3.1
theorem parts_ok {ms : List Nat} {n : Nat} (hn : ms.length = n) : ∀ (f i : Nat) (acc : List Nat) (k : Nat), acc = List.range' k acc.length → i = k + acc.length → f + i = n → PartsOk ms n k (parts ms f i acc)
  | 0, i, acc, k, h1, h2, h3 => by
    rw [parts, PartsOk, PartsOk]
    exact ⟨h1, by omega, fun j hj hj2 => by omega, by omega⟩
  | f + 1, i, acc, k, h1, h2, h3 => by
    have hacc : acc ++ [i] = List.range' k (acc ++ [i]).length := by
      rw [List.length_append, List.length_singleton, List.range'_concat, ← h1, h2, Nat.one_mul]
    have hlen : k + (acc ++ [i]).length = i + 1 := by simp; omega
    rw [parts]
    split
    · rename_i hc
      rw [PartsOk]
      refine ⟨hacc, by omega, fun j hj hj2 q hq => cutAt_bit hc (by omega) (by omega) (by omega), ?_⟩
      rw [hlen]
      exact parts_ok hn f (i + 1) [] (i + 1) rfl rfl (by omega)
    · exact parts_ok hn f (i + 1) (acc ++ [i]) k hacc (by omega) (by omega)
/-- What is to be shown of a region's operations. -/
def RegW (P : Program) (draw : Bool) (ops : Array Oper) (Q : Exit → Act → World → Prop) (a : Act) (w : World) : Prop :=
  if draw = true then ∀ t, wpOps P ops Q (Region.schedule (P.follows .mixedOrders) ops t) a { w with drawn := w.drawn + 1 } else wpOps P ops Q (List.range ops.size) a w
theorem RegW.wp {P : Program} {id : Nat} {draw : Bool} {ops : Array Oper} {Q : Exit → Act → World → Prop} {a : Act} {w : World} (h : RegW P draw ops Q a w) : (Code.region id ops draw).wp P Q a w := by
  unfold RegW at h
  split at h
  · rename_i e
    subst e
    exact wp_region_draw h
  · rename_i e
    have e' : draw = false := by simpa using e
    subst e'
    exact wp_region h
section
variable {R : Type} {r : R} {W0 : World} {c : Cx W0} {P : Program} {S : List (FuncId × FSig)} {callT : (f : FuncId) → (g : FSig) → List PV → Option g.res.den}
theorem parts_sound (hS : OkS P S W0) (hcall : ∀ f g args x, callT f g args = some x → CallOk W0 P f g args x) {ops : Array Oper} {ms : List Nat} (hB : Behind ops.toList ms) {Q : Exit → Act → World → Prop} {K : St → Option R}
    (hQ : ∀ ρ own s a w, K s = some r → RelX ρ own c s a w → Q .normal a w) :
    ∀ (segs : List (List Nat)) (k : Nat) {s : St} {a : Act} {w : World} {ρ : Nat → Value} {own : Nat → Prop} {fuel : Nat} {listed : Array Bool}, PartsOk ms ops.size k segs → evParts P S callT ops.toList ms segs s K = some r → RelX ρ own c s a w → Done ops listed k [] → ops.size - k ≤ fuel → wpAny P .any ops Q fuel listed a w
  | [], k, s, a, w, ρ, own, fuel, listed, hp, h, hr, hd, hf => by
    rw [PartsOk] at hp
    subst hp
    rw [evParts] at h
    have hno : Region.ready .any ops listed = [] := by
      cases hq : Region.ready .any ops listed with
      | nil => rfl
      | cons i l =>
        obtain ⟨h1, h2, _⟩ := ready_of hd (i := i) (by rw [hq]; exact List.mem_cons_self)
        exact absurd ⟨h1, List.not_mem_nil⟩ h2
    have hq := hQ _ _ _ _ _ h hr
    cases fuel with
    | zero => exact ⟨hno, hq⟩
    | succ fuel => exact ⟨fun _ => hq, fun i hi => by rw [hno] at hi; cases hi⟩
  | [] :: l, k, s, a, w, ρ, own, fuel, listed, hp, h, hr, hd, hf => by
    rw [PartsOk] at hp
    rw [evParts] at h
    exact parts_sound hS hcall hB hQ l k (by simpa using hp.2.2.2) h hr hd hf
  | [i] :: l, k, s, a, w, ρ, own, fuel, listed, hp, h, hr, hd, hf => by
    rw [PartsOk] at hp
    obtain ⟨h1, h2, h3, h4⟩ := hp
    have hik : i = k := by simpa using h1
    subst hik
    have h2' : i + 1 ≤ ops.size := h2
    rw [evParts] at h
    split at h
    · cases h
    · rename_i o ho
      cases fuel with
      | zero => omega
      | succ fuel =>
        refine ⟨fun e => absurd e (ready_some hB hd (fun j hj => by cases hj) (by omega) (.inr (by omega))), fun j hj => ?_⟩
        obtain ⟨hj1, hj2, _⟩ := ready_of hd hj
        have hji : j = i := by
          rcases Nat.lt_trichotomy j i with q | q | q
          · exact absurd ⟨q, List.not_mem_nil⟩ hj2
          · exact q
          · have := ready_bits hB hd (fun _ _ _ _ _ => List.not_mem_nil) hj (h3 j (show i + 1 ≤ j from q) hj1 i (by simp))
            exact absurd this.1 (Nat.lt_irrefl _)
        subst hji
        refine op_sound hS hcall (by rw [← Array.getElem?_toList]; exact ho) h hr fun ρ' own' s' a' w' hK hR => ?_
        refine parts_sound hS hcall hB hQ l (j + 1) (by simpa using h4) hK hR (hd.set hj1 fun q => ?_) (by omega)
        constructor
        · rintro ⟨q1, _⟩
          by_cases e : q = j
          · exact .inl e
          · exact .inr ⟨by omega, List.not_mem_nil⟩
        · rintro (rfl | ⟨q1, _⟩)
          · exact ⟨by omega, List.not_mem_nil⟩
          · exact ⟨by omega, List.not_mem_nil⟩
  | (i :: j :: seg) :: l, k, s, a, w, ρ, own, fuel, listed, hp, h, hr, hd, hf => by
    rw [PartsOk] at hp
    obtain ⟨h1, h2, h3, h4⟩ := hp
    rw [evParts] at h
    obtain ⟨recs, hK, hi, hgood⟩ := evSeg_trace (i :: j :: seg) [] h
    rw [List.nil_append] at hK
    have hlen : recs.length = (i :: j :: seg).length := by rw [← hi, List.length_map]
    rw [← hlen] at h1 h2 h3 h4
    split at hK
    case isFalse => cases hK
    rename_i hok
    have hr' := blank_rel ((i :: j :: seg).filterMap (dstNA ops.toList)) hr
    refine seg_sound hS hcall hB (k := k) (recs := recs) h2 (hi.trans h1) h3 hok (fun x hx hxs => ?_) (fun pre x post e => ?_) (fun fuel listed a w ρ own hR hD hF => parts_sound hS hcall hB hQ l (k + recs.length) h4 hK hR hD hF) recs.length (List.range' k recs.length) fuel listed a w ρ own (by simp) List.nodup_range' (fun q hq => by simpa using hq) (fun q hq hn x hx => ?_) ?_ (by simp; omega) ?_
    · obtain ⟨pre, post, e⟩ := List.append_of_mem hx
      obtain ⟨o, ho, hg⟩ := hgood pre x post e
      have hdst : o.dst = some x.d := by
        rcases hg with g | g
        · have := g.2.2.1
          rw [hxs] at this
          cases this
        · exact g.1
      cases ha : isAsg o with
      | true => exact .inr ⟨o, ho, ha, hdst⟩
      | false =>
        refine .inl (nth_blank _ _ _ (.inl ?_))
        refine List.mem_filterMap.2 ⟨x.i, ?_, ?_⟩
        · rw [← hi]
          exact List.mem_map.2 ⟨x, hx, rfl⟩
        · unfold dstNA
          rw [ho, Option.bind_some, if_neg (by rw [ha]; exact Bool.false_ne_true)]
          exact hdst
    · have := hgood pre x post e
      rw [List.nil_append] at this
      exact this
    · intro hxr
      have := hB.lt _ _ hx
      have hq2 : q < k := by
        rcases Nat.lt_or_ge q k with y | y
        · exact y
        · exact absurd (by simp; omega) hn
      simp at hxr
      omega
    · refine ⟨hd.1, fun q hq => ?_⟩
      rw [hd.2 q hq]
      simp
      omega
    · have e : sumS (fun j => !memN j (List.range' k recs.length)) recs ⟨blank ((i :: j :: seg).filterMap (dstNA ops.toList)) s.env, s.sto⟩ = ⟨blank ((i :: j :: seg).filterMap (dstNA ops.toList)) s.env, s.sto⟩ := by
        have : ∀ (l : List Rec) (m : St), (∀ y, y ∈ l → y ∈ recs) → sumS (fun j => !memN j (List.range' k recs.length)) l m = m := by
          intro l
          induction l with
          | nil => intro m _; rfl
          | cons y l ihl =>
            intro m hy
            have hm : memN y.i (List.range' k recs.length) = true := by
              have hin : y.i ∈ List.range' k recs.length := by
                rw [← h1, ← hi]
                exact List.mem_map.2 ⟨y, hy y List.mem_cons_self, rfl⟩
              revert hin
              generalize List.range' k recs.length = L
              intro hin
              induction L with
              | nil => cases hin
              | cons z L ihL =>
                rw [memN, Bool.or_eq_true]
                rcases List.mem_cons.1 hin with q | q
                · exact .inl (by rw [q]; exact Nat.beq_refl z)
                · exact .inr (ihL q)
            rw [sumS, hm, if_neg (by simp), ihl _ fun z hz => hy z (List.mem_cons_of_mem _ hz)]
        exact this recs _ fun y hy => hy
      rw [e]
      exact hr'
theorem evReg_sound (hS : OkS P S W0) (hcall : ∀ f g args x, callT f g args = some x → CallOk W0 P f g args x) {draw : Bool} {ops : Array Oper} {s : St} {a : Act} {w : World} {ρ : Nat → Value} {own : Nat → Prop} {K : St → Option R} (h : evReg P S callT draw ops s K = some r) (hr : RelX ρ own c s a w) :
    RegW P draw ops (fun e a' w' => e = .normal ∧ ∃ ρ' own' s', K s' = some r ∧ RelX ρ' own' c s' a' w') a w := by
  unfold evReg at h
  split at h
  · rename_i hd
    subst hd
    split at h
    · rename_i hb
      have hB := Behind.of hb
      unfold RegW
      rw [if_pos rfl]
      intro tp
      simp only [Region.schedule, hS.mixed, Bool.true_or, if_true]
      refine wpAny_sound ops.size tp _ a _ ?_
      have hr' : RelX ρ own c s a { w with drawn := w.drawn + 1 } := hr.grow ⟨Nat.le_refl _, fun _ _ _ => rfl⟩ (hr.below.trans ⟨rfl, rfl, rfl, Nat.le_refl _, fun _ _ _ => rfl⟩ (fun _ _ q => q))
      have hlen : (masks ops.toList []).length = ops.size := by rw [(masks_pre _ _).1]; simp
      refine parts_sound hS hcall hB (Q := fun e a' w' => e = .normal ∧ ∃ ρ' own' s', K s' = some r ∧ RelX ρ' own' c s' a' w') (fun ρ' own' s' a' w' h1 h2 => ⟨rfl, ρ', own', s', h1, h2⟩) _ 0 (parts_ok hlen ops.size 0 [] 0 rfl rfl (by omega)) h hr' ⟨by simp, fun j hj => ?_⟩ (by omega)
      simp [Array.getD, hj]
    · cases h
  · rename_i hd
    have hd' : draw = false := by simpa using hd
    subst hd'
    unfold RegW
    rw [if_neg Bool.false_ne_true]
    refine evOps_sound hS hcall (Q := fun e a' w' => e = .normal ∧ ∃ ρ' own' s', K s' = some r ∧ RelX ρ' own' c s' a' w') (fun ρ' own' s' a' w' h1 h2 => ⟨rfl, ρ', own', s', h1, h2⟩) (List.range ops.size) (s := s) ?_ hr
    rw [range_ops]
    exact h
end
end Go.Proofs.Ytbaekdcacmoniaa.Pv
