/- Plain laws of whole numbers, lists and answers, used by the pure statements. -/
import Derived.Test.YtbaekdcacmoniaaPv23
import Derived.IntWalk
import Derived.KernelRfl
namespace Go.Proofs.Ytbaekdcacmoniaa.Pl
open Go Go.RowKit Go.Proofs.Ytbaekdcacmoniaa.Pv

theorem wi {x : Int} (h0 : -9223372036854775808 ≤ x) (h1 : x ≤ 9223372036854775807) : IntKind.i64.wrap x = x := IntWalk.i64_in x ⟨h0, h1⟩
theorem wi_nat {i : Nat} (h : i < 9223372036854775807) : IntKind.i64.wrap ((i : Int) + 1) = ((i + 1 : Nat) : Int) := by rw [wi (by omega) (by omega)]; omega
theorem wf64 {x : Int} (h : (Lit.int .i64 x).wf = true) : -9223372036854775808 ≤ x ∧ x ≤ 9223372036854775807 := bounds_i64 h
theorem wf8 {x : Int} (h : (Lit.int .u8 x).wf = true) : 0 ≤ x ∧ x ≤ 255 := bounds_u8 h
theorem getD_nat {α : Type} (d : α) (xs : List α) {i : Nat} (h : i < xs.length) : xs.getD i d = xs[i] := by simp [h]
theorem getD_int {α : Type} (d : α) (xs : List α) {i : Nat} (h : i < xs.length) : xs.getD (i : Int).toNat d = xs[i] := by simp [h]
theorem toNat_nat (i : Nat) : (i : Int).toNat = i := Int.toNat_natCast i
theorem ite_t {α : Type} {c : Prop} [Decidable c] {a b : α} (h : c) : (if c then a else b) = a := if_pos h
theorem ite_f {α : Type} {c : Prop} [Decidable c] {a b : α} (h : ¬ c) : (if c then a else b) = b := if_neg h
/-- A test on the left of an equation, both ways. -/
theorem ite_eq {α : Type} {c : Prop} [Decidable c] {a b r : α} (h1 : c → a = r) (h2 : ¬ c → b = r) : (if c then a else b) = r := by
  by_cases h : c
  · rw [if_pos h]; exact h1 h
  · rw [if_neg h]; exact h2 h
theorem dt {p : Prop} [Decidable p] : (decide p = true) = p := decide_eq_true_eq
theorem df {p : Prop} [Decidable p] : (decide p = false) = ¬ p := by simp
theorem ne_t {a b : Int} : ((a != b) = true) = (a ≠ b) := by simp
theorem eq_t {a b : Int} : ((a == b) = true) = (a = b) := by simp
theorem ne_f {a b : Int} : ((a != b) = false) = (a = b) := by simp
theorem eq_f {a b : Int} : ((a == b) = false) = (a ≠ b) := by simp
theorem not_t {b : Bool} : ((!b) = true) = (b = false) := by simp
theorem not_f {b : Bool} : ((!b) = false) = (b = true) := by simp
theorem bind_some_ {α β : Type} (a : α) (f : α → Option β) : (some a).bind f = f a := rfl
theorem bind_id {α : Type} (x : Option α) : (x.bind fun r => some r) = x := by cases x <;> rfl
theorem bind_ite {α β : Type} {c : Prop} [Decidable c] (a b : Option α) (f : α → Option β) : (if c then a else b).bind f = if c then a.bind f else b.bind f := by split <;> rfl
/-- Two lists held against each other, element by element, by a run over both. -/
theorem equal_run {α : Type} (d : α) (e : α → α → Bool) (he : ∀ x y, e x y = true ↔ x = y) (a b : List α) (hab : a.length = b.length) (hb : a.length < 9223372036854775807) (p : Int → Option Bool)
    (hp : ∀ i : Int, p i = if decide (i < (a.length : Int)) = true then (if 0 ≤ i then (if i < (a.length : Int) then (if 0 ≤ i then (if i < (b.length : Int) then (if (!(e (a.getD i.toNat d) (b.getD i.toNat d))) = true then some false else p (IntKind.i64.wrap (i + 1))) else none) else none) else none) else none) else some true) [DecidableEq α] :
    p 0 = some (decide (a = b)) := by
  have key : ∀ (n i : Nat), i + n = a.length → p (i : Int) = some (decide (a.drop i = b.drop i)) := by
    intro n
    induction n with
    | zero =>
      intro i h
      rw [hp, if_neg (by rw [dt]; omega), List.drop_eq_nil_of_le (by omega), List.drop_eq_nil_of_le (by omega)]
      simp
    | succ n ih =>
      intro i h
      have h1 : i < a.length := by omega
      have h2 : i < b.length := by omega
      rw [hp, if_pos (by rw [dt]; omega), if_pos (by omega), if_pos (by omega), if_pos (by omega), if_pos (by omega), wi_nat (by omega), getD_int d a h1, getD_int d b h2, List.drop_eq_getElem_cons h1, List.drop_eq_getElem_cons h2]
      by_cases q : a[i] = b[i]
      · rw [if_neg (by rw [not_t]; simp [(he _ _).2 q]), ih (i + 1) (by omega)]
        exact congrArg some (decide_eq_decide.2 ⟨fun z => by rw [q, z], fun z => (List.cons.inj z).2⟩)
      · rw [if_pos (by rw [not_t]; cases z : e a[i] b[i] with | false => rfl | true => exact absurd ((he _ _).1 z) q)]
        exact congrArg some (decide_eq_false (fun z => q (List.cons.inj z).1)).symm
  have := key a.length 0 (by omega)
  simpa using this
end Go.Proofs.Ytbaekdcacmoniaa.Pl
