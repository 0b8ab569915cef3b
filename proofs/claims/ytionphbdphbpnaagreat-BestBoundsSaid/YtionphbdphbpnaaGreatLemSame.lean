/- Two answers that are the same. -/
import Derived.Test.YtionphbdphbpnaaGreatEA0
import Derived.Test.YtionphbdphbpnaaGreatEA1
import Derived.Test.YtionphbdphbpnaaGreatEA2
import Derived.Test.YtionphbdphbpnaaGreatEA3
import Derived.Test.YtionphbdphbpnaaGreatEA4
import Derived.Test.YtionphbdphbpnaaGreatPl
namespace Go.Proofs.YtionphbdphbpnaaGreat.Pure
set_option linter.unusedVariables false
set_option linter.unusedSimpArgs false
open Go Go.RowKit Go.Proofs.YtionphbdphbpnaaGreat.Pv Go.Proofs.YtionphbdphbpnaaGreat.Pl Go.Proofs.YtionphbdphbpnaaGreat.EA

/-! Two computations with one answer. -/
def Same {α : Type} (p : α → Prop) (x y : Option α) : Prop := ∃ r, x = some r ∧ y = some r ∧ p r
theorem Same.mk {α : Type} {p : α → Prop} (a : α) (h : p a) : Same p (some a) (some a) := ⟨a, rfl, rfl, h⟩
theorem Same.ite {α : Type} {p : α → Prop} {c c' : Prop} [Decidable c] [Decidable c'] {a b a' b' : Option α} (h : c ↔ c') (h1 : c → Same p a a') (h2 : ¬ c → Same p b b') : Same p (if c then a else b) (if c' then a' else b') := by
  by_cases q : c
  · rw [if_pos q, if_pos (h.1 q)]; exact h1 q
  · rw [if_neg q, if_neg (fun k => q (h.2 k))]; exact h2 q
theorem Same.bind {α β : Type} {p : α → Prop} {q : β → Prop} {x y : Option β} {f g : β → Option α} (h : Same q x y) (k : ∀ r, q r → Same p (f r) (g r)) : Same p (x.bind f) (y.bind g) := by
  obtain ⟨r, h1, h2, h3⟩ := h
  rw [h1, h2]
  exact k r h3
theorem Same.of {α : Type} {p : α → Prop} {x y : Option α} (h1 : x = y) (h2 : ∃ r, y = some r ∧ p r) : Same p x y := by
  obtain ⟨r, h2, h3⟩ := h2
  exact ⟨r, h1.trans h2, h2, h3⟩
theorem Same.imp {α : Type} {p q : α → Prop} {x y : Option α} (h : Same p x y) (k : ∀ r, p r → q r) : Same q x y := by
  obtain ⟨r, h1, h2, h3⟩ := h
  exact ⟨r, h1, h2, k r h3⟩
/-- One more test on one side. -/
theorem Same.left {α : Type} {p : α → Prop} {c : Prop} [Decidable c] {a b y : Option α} (h1 : c → Same p a y) (h2 : ¬ c → Same p b y) : Same p (if c then a else b) y := by
  by_cases q : c
  · rw [if_pos q]; exact h1 q
  · rw [if_neg q]; exact h2 q
theorem Same.right {α : Type} {p : α → Prop} {c : Prop} [Decidable c] {a b x : Option α} (h1 : c → Same p x a) (h2 : ¬ c → Same p x b) : Same p x (if c then a else b) := by
  by_cases q : c
  · rw [if_pos q]; exact h1 q
  · rw [if_neg q]; exact h2 q
theorem Same.law {α : Type} {p : α → Prop} {x y : Option α} {f : α → α → Bool} (h : Same p x y) (hf : ∀ r, p r → f r r = true) : (x.bind fun a => y.bind fun b => some (f a b)) = some true := by
  obtain ⟨r, h1, h2, h3⟩ := h
  rw [h1, h2]
  show some (f r r) = some true
  rw [hf r h3]

end Go.Proofs.YtionphbdphbpnaaGreat.Pure
