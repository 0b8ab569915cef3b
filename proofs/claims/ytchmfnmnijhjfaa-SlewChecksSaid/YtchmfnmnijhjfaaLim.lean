/- The printed functions without their count of rounds: 'lim g' is what g answers from some number of rounds on. Plain laws of it; no program in sight. -/
import Derived.Test.YtchmfnmnijhjfaaWMore
namespace Go.Proofs.Ytchmfnmnijhjfaa.Lim
open Go.Proofs.YtchmfnmnijhjfaaW.PrintWords

def Mono {α : Type} (g : Nat → Option α) : Prop := ∀ k, LeO (g k) (g (k + 1))
open Classical in
noncomputable def lim {α : Type} (g : Nat → Option α) : Option α := if h : ∃ r, Ev g r then some h.choose else none

theorem ev_uniq {α : Type} {g : Nat → Option α} {a b : α} (ha : Ev g a) (hb : Ev g b) : a = b := by
  obtain ⟨K, hK⟩ := ha
  obtain ⟨M, hM⟩ := hb
  have h1 := hK (K + M) (by omega)
  have h2 := hM (K + M) (by omega)
  rw [h1] at h2
  exact Option.some.inj h2
theorem lim_of {α : Type} {g : Nat → Option α} {r : α} (h : Ev g r) : lim g = some r := by
  have hx : ∃ r, Ev g r := ⟨r, h⟩
  unfold lim
  rw [dif_pos hx]
  exact congrArg some (ev_uniq hx.choose_spec h)
theorem ev_of_lim {α : Type} {g : Nat → Option α} {r : α} (h : lim g = some r) : Ev g r := by
  unfold lim at h
  split at h
  · rename_i hx
    have := hx.choose_spec
    rw [Option.some.inj h] at this
    exact this
  · cases h
theorem lim_none {α : Type} {g : Nat → Option α} (h : lim g = none) (r : α) : ¬ Ev g r := fun he => by
  rw [lim_of he] at h
  cases h
theorem lim_ext {α : Type} {g f : Nat → Option α} (h : ∀ r, Ev g r ↔ Ev f r) : lim g = lim f := by
  cases hg : lim g with
  | some r => exact (lim_of ((h r).1 (ev_of_lim hg))).symm
  | none =>
    cases hf : lim f with
    | none => rfl
    | some r => exact absurd ((h r).2 (ev_of_lim hf)) (lim_none hg r)
theorem rounds {α : Type} {g : Nat → Option α} {r : α} (h : lim g = some r) : ∃ k, g k = some r := (ev_of_lim h).rounds
theorem lim_const {α : Type} (x : Option α) : lim (fun _ => x) = x := by
  cases x with
  | some r => exact lim_of (Ev.now r)
  | none =>
    cases h : lim (fun _ : Nat => (none : Option α)) with
    | none => rfl
    | some r =>
      obtain ⟨K, hK⟩ := ev_of_lim h
      exact absurd (hK K (Nat.le_refl _)) (by simp)
theorem lim_succ {α : Type} (g : Nat → Option α) : lim (fun k => g (k + 1)) = lim g := by
  refine lim_ext fun r => ⟨fun ⟨K, hK⟩ => ⟨K + 1, fun k hk => ?_⟩, fun ⟨K, hK⟩ => ⟨K, fun k hk => hK (k + 1) (by omega)⟩⟩
  obtain ⟨m, rfl⟩ : ∃ m, k = m + 1 := ⟨k - 1, by omega⟩
  exact hK m (by omega)
theorem lim_step {α : Type} {g f : Nat → Option α} (h : ∀ k, g (k + 1) = f k) : lim g = lim f := by
  rw [← lim_succ g]
  exact congrArg lim (funext h)
theorem lim_ite {α : Type} (c : Prop) [Decidable c] (f g : Nat → Option α) : lim (fun k => if c then f k else g k) = if c then lim f else lim g := by
  by_cases h : c
  · simp only [if_pos h]
  · simp only [if_neg h]
theorem lim_bind {α β : Type} {g : Nat → Option α} (hg : Mono g) (f : Nat → α → Option β) : lim (fun k => (g k).bind (f k)) = (lim g).bind (fun a => lim (fun k => f k a)) := by
  cases h : lim g with
  | some a =>
    obtain ⟨K, hK⟩ := ev_of_lim h
    refine lim_ext fun r => ⟨fun ⟨M, hM⟩ => ⟨K + M, fun k hk => ?_⟩, fun ⟨M, hM⟩ => ⟨K + M, fun k hk => ?_⟩⟩
    · have h1 : (g k).bind (f k) = some r := hM k (by omega)
      rw [hK k (by omega)] at h1
      exact h1
    · show (g k).bind (f k) = some r
      rw [hK k (by omega)]
      exact hM k (by omega)
  | none =>
    have hn : ∀ k, g k = none := fun k => by
      cases hk : g k with
      | none => rfl
      | some a => exact absurd (Ev.of hg hk) (lim_none h a)
    simp only [hn, Option.bind_none]
    exact lim_const none
theorem mono_const {α : Type} (x : Option α) : Mono (fun _ => x) := fun _ => LeO.refl _
end Go.Proofs.Ytchmfnmnijhjfaa.Lim
