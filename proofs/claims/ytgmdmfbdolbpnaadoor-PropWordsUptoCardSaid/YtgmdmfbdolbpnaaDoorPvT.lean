/- Numbers printed and strings joined, by the shelf's contracts: what the machine asks of Itoa, FormatInt and Join. -/
import Derived.Shelf.Strconv.Itoa4
import Derived.Shelf.Strings.OnBuilder
import Derived.Test.YtgmdmfbdolbpnaaDoorPvL
set_option linter.unusedVariables false
namespace Go.Proofs.YtgmdmfbdolbpnaaDoor.Pv
open Go Go.Proofs Go.Shelf Go.RowKit
variable {P : Program} {ρ : Ren} {W0 : World}
theorem digs_eq : ∀ (f u : Nat), u < 10 ^ (f + 1) → digs (f + 1) u = Lib.decDigits u
  | f, u, h => by
    rw [digs, Lib.decDigits]
    by_cases h1 : u < 10
    · rw [if_pos (by simpa using h1), dif_pos h1]
    · rw [if_neg (by simpa using h1), dif_neg h1]
      cases f with
      | zero => omega
      | succ f =>
        rw [digs_eq f (u / 10) (by
          have : 10 ^ (f + 1 + 1) = 10 ^ (f + 1) * 10 := Nat.pow_succ ..
          omega)]
theorem itoaB_eq {n : Int} (h : in64 n = true) : itoaB n = ⟨(Lib.itoa n).toArray⟩ := by
  unfold in64 at h
  rw [Bool.and_eq_true, decide_eq_true_eq, decide_eq_true_eq] at h
  have e : (10 : Nat) ^ (19 + 1) = 100000000000000000000 := by decide +kernel
  unfold itoaB Lib.itoa
  split
  · rw [digs_eq 19 _ (by rw [e]; omega)]
  · rw [digs_eq 19 _ (by rw [e]; omega)]
theorem toList_app (x y : ByteArray) : (x ++ y).data.toList = x.data.toList ++ y.data.toList := by
  simp [ByteArray.data_append]
theorem joinB_list (sep : ByteArray) : ∀ l : List ByteArray, (joinB sep l).data.toList = Lib.join (l.map (·.data.toList)) sep.data.toList
  | [] => rfl
  | [x] => by rw [joinB, List.map_cons, List.map_nil, Lib.join_one]
  | x :: y :: r => by
    rw [joinB, toList_app, toList_app, joinB_list sep (y :: r), List.map_cons, Lib.join_cons, List.map_cons, Lib.join_cons, Lib.joinTail, Lib.joinTail, List.map_cons, List.map_cons, List.flatten_cons, List.append_assoc]
theorem joinB_eq (sep : ByteArray) (l : List ByteArray) : (⟨(Lib.join (l.map (·.data.toList)) sep.data.toList).toArray⟩ : ByteArray) = joinB sep l := by
  rw [← joinB_list]
theorem tab_later {w : World} {nm : String} {k : IntKind} {zs : List Int} (h : Lib.TabIs P W0 nm k zs) (hb : Beneath (fun _ => False) W0 w) : Lib.TabIs P w nm k zs := by
  unfold Lib.TabIs at h ⊢
  unfold World.var? at h ⊢
  cases hg : P.globalNamed nm with
  | none => rw [hg] at h; cases h
  | some g =>
    rw [hg] at h
    have h' : (match W0.heap[g]? with | some (.cells cs _ _) => some cs | _ => none) = some (zs.map fun z => Value.int k z).toArray := h
    have hlt : g < W0.heap.size := by
      rcases Nat.lt_or_ge g W0.heap.size with q | q
      · exact q
      · rw [Array.getElem?_eq_none q] at h'
        cases h'
    show (match w.heap[g]? with | some (.cells cs _ _) => some cs | _ => none) = _
    rw [hb.block g hlt (fun q => q)]
    exact h'
theorem grow_beneath (w : World) (k : Nat) (os : Array Obj) : Beneath (fun _ => False) w (Go.Sort.grow (w.drewN k) os) := by
  refine ⟨rfl, rfl, rfl, ?_, fun g hg _ => ?_⟩
  · show w.heap.size ≤ (w.heap ++ os).size
    rw [Array.size_append]
    omega
  · show (w.heap ++ os)[g]? = w.heap[g]?
    rw [Array.getElem?_append_left hg]
theorem itoaOk (L : LaysM.n171 P ρ) (ht : Lib.TabIs P W0 "internal/strconv.uint64pow10" .u64 Lib.pow10Tab) (n : Int) (w : World) (hn : in64 n = true) (hb : Beneath (fun _ => False) W0 w) : Calls P (ρ.f 171) #[.int .i64 n] w fun e w' => e = .returned (.string (itoaB n)) ∧ Beneath (fun _ => False) w w' := by
  have hn' := hn
  unfold in64 at hn
  rw [Bool.and_eq_true, decide_eq_true_eq, decide_eq_true_eq] at hn
  refine (Any.strconv_Itoa L n hn.1 hn.2 w (tab_later ht hb)).mono ?_
  rintro e w' ⟨rfl, k, os, rfl⟩
  exact ⟨by rw [itoaB_eq hn'], grow_beneath w k os⟩
theorem formatOk (L : LaysM.n173 P ρ) (ht : Lib.TabIs P W0 "internal/strconv.uint64pow10" .u64 Lib.pow10Tab) (n : Int) (w : World) (hn : in64 n = true) (hb : Beneath (fun _ => False) W0 w) : Calls P (ρ.f 173) #[.int .i64 n, .int .i64 10] w fun e w' => e = .returned (.string (itoaB n)) ∧ Beneath (fun _ => False) w w' := by
  have hn' := hn
  unfold in64 at hn
  rw [Bool.and_eq_true, decide_eq_true_eq, decide_eq_true_eq] at hn
  refine (Any.strconv_FormatInt_10 L n hn.1 hn.2 w (tab_later ht hb)).mono ?_
  rintro e w' ⟨rfl, k, os, rfl⟩
  exact ⟨by rw [itoaB_eq hn'], grow_beneath w k os⟩
theorem below_beneath {w w' : World} (h : Below w.heap.size w w') : Beneath (fun _ => False) w w' := ⟨h.os, h.tape, h.output, h.size, fun g hg _ => h.block g hg⟩
theorem joinOk (L : Lays.n156 P ρ) (X : Builder.Extra P ρ) (e : TypeId) : (∀ (A : Option Addr) (sep : ByteArray) (w : World), Calls P (ρ.f 156) #[.slice A 0 0, .string sep] w fun e w' => e = .returned (.string ByteArray.empty) ∧ Beneath (fun _ => False) w w') ∧
      ∀ (g k : Nat) (us : Array Value) (l : List ByteArray) (sep : ByteArray) (w : World), w.heap[g]? = some (.cells us e (0, 0)) → l.length ≤ k → (∀ (i : Nat) (x : ByteArray), l[i]? = some x → us[i]? = some (.string x)) → l.length ≤ 140737488355328 → (joinB sep l).size ≤ 140737488355328 →
        Calls P (ρ.f 156) #[.slice (some ⟨g, 0, none⟩) l.length k, .string sep] w fun e w' => e = .returned (.string (joinB sep l)) ∧ Beneath (fun _ => False) w w' := by
  refine ⟨fun A sep w => ?_, fun g k us l sep w hh hk hc hl hj => ?_⟩
  · refine (Any.strings_Join_none L X A 0 sep w).mono ?_
    rintro e w' ⟨rfl, rfl⟩
    exact ⟨rfl, Beneath.refl _ _⟩
  · refine (Any.strings_Join L X g 0 k l sep w (fun j x hx => ?_) ?_ hl hk ?_).mono ?_
    · rw [Lib.cell_of_heap hh, Nat.zero_add]
      exact hc j x hx
    · rcases Nat.lt_or_ge g w.heap.size with q | q
      · exact q
      · rw [Array.getElem?_eq_none q] at hh
        cases hh
    · rw [← joinB_list]
      have e1 : (joinB sep l).data.toList.length = (joinB sep l).size := Array.length_toList
      rw [e1]
      exact hj
    · rintro e w' ⟨rfl, hb⟩
      exact ⟨by rw [joinB_eq], below_beneath hb⟩
end Go.Proofs.YtgmdmfbdolbpnaaDoor.Pv
