/- Windows. -/
import Derived.Test.YtionphbdphbpnaaGreatEA0
import Derived.Test.YtionphbdphbpnaaGreatEA1
import Derived.Test.YtionphbdphbpnaaGreatEA2
import Derived.Test.YtionphbdphbpnaaGreatEA3
import Derived.Test.YtionphbdphbpnaaGreatEA4
import Derived.Test.YtionphbdphbpnaaGreatPl
import Derived.Test.YtionphbdphbpnaaGreatLemNum
import Derived.Test.YtionphbdphbpnaaGreatLemDiv
import Derived.Test.YtionphbdphbpnaaGreatLemNight
import Derived.Test.YtionphbdphbpnaaGreatLemBound
import Derived.Test.YtionphbdphbpnaaGreatLemHeight
import Derived.Test.YtionphbdphbpnaaGreatLemSame
namespace Go.Proofs.YtionphbdphbpnaaGreat.Pure
set_option linter.unusedVariables false
set_option linter.unusedSimpArgs false
open Go Go.RowKit Go.Proofs.YtionphbdphbpnaaGreat.Pv Go.Proofs.YtionphbdphbpnaaGreat.Pl Go.Proofs.YtionphbdphbpnaaGreat.EA

/-! Slots that are closed: the program's reason is the reference's. -/
abbrev Req : Type := Int × Int × (Int × Int × Int) × Int × Int × Int × Int × Int × Int × Int × Int
theorem windows_ok : spylaw2_windows = some true := callL_some.2 ⟨400, by kernel_rfl⟩
theorem height_same (n : Night) (v : Int × Int × Int) (k : Int) : window_height n v k = spyref2_Height n v k ∧ Def (spyref2_Height n v k) := by
  rw [window_height_eq, spyref2_Height_eq, window_when_eq, spyref2_Times_eq, bind_some_]
  exact ⟨rfl, (sidereal_def _ _).bind fun _ _ => (height_def _ _ _).bind fun _ _ => .mk _⟩
theorem dark_same (n : Night) (k : Int) : window_dark n k = spyref2_DarkIn n k ∧ Def (spyref2_DarkIn n k) := by
  obtain ⟨h1, b, h2⟩ := height_same n n.2.2.2.2.2.1 k
  rw [window_dark_eq, spyref2_DarkIn_eq, h1, h2, bind_some_, bind_some_, window_atMost_eq, bind_id]
  exact ⟨rfl, Def.ite (fun _ => .mk _) (fun _ => .mk _)⟩
theorem closed_same (n : Night) (r : Req) (k : Int) (h0 : 0 ≤ k) (h1 : k < (n.2.2.2.2.2.2.2.2.length : Int)) : Same (fun _ => True) (window_why n r k) (spyref2_Closed n r k) := by
  obtain ⟨d1, d, d2⟩ := dark_same n k
  obtain ⟨a1, a, a2⟩ := height_same n r.2.2.1 k
  obtain ⟨m1, m, m2⟩ := height_same n n.2.2.2.2.2.2.1 k
  obtain ⟨c, hc⟩ := cosine_def r.2.2.1 n.2.2.2.2.2.2.1
  rw [window_why_eq, spyref2_Closed_eq, d1, d2, a1, a2, m1, m2, hc]
  simp only [bind_some_, window_atLeast_eq, window_atMost_eq]
  refine .ite Iff.rfl (fun _ => .mk _ trivial) (fun _ => .ite Iff.rfl (fun _ => .ite Iff.rfl (fun _ => .ite Iff.rfl (fun _ => .mk _ trivial) (fun _ => ?_)) (fun q => absurd h1 q)) (fun q => absurd h0 q))
  obtain ⟨ca, cb, cu⟩ := c
  obtain ⟨ma, mb, mu⟩ := m
  obtain ⟨aa, ab, au⟩ := a
  have h3 : ∀ x : Int, decide (aa ≥ x) = !decide (aa < x) := by
    intro x
    by_cases h : aa < x
    · simp [h]
    · simp [h]; omega
  have h4 : ∀ x y : Int, decide (x ≤ y) = !decide (x > y) := by
    intro x y
    rw [Bool.eq_iff_iff]
    simp
  have h5 : decide (mb ≤ -1) = !decide (mb ≥ 0) := by
    by_cases h : mb ≥ 0
    · simp [h]; omega
    · simp [h]; omega
  simp only
  rw [h3, h4 cb, h5]
  generalize decide (aa < r.2.2.2.2.2.2.2.1) = A
  generalize decide (cb > r.2.2.2.2.2.2.2.2.1) = C
  generalize decide (mb ≥ 0) = M
  cases au <;> cases cu <;> cases mu <;> cases A <;> cases C <;> cases M <;> exact ⟨_, rfl, rfl, trivial⟩
/-! Requests. -/
theorem request_same (r : Req) : Same (fun _ => True) (prop_CheckRequest r) (spyref2_RequestFault r) := by
  have p12 : Same (fun _ => True) (prop_CheckRequest.p12 r) (spyref2_RequestFault.p11 r) := by
    rw [prop_CheckRequest.p12_eq, spyref2_RequestFault.p11_eq]
    simp only [within_in, in_val, bind_some_]
    repeat' (refine Same.ite Iff.rfl (fun _ => ?_) (fun _ => ?_))
    all_goals exact .mk _ trivial
  obtain ⟨e, s1, d1⟩ := dir_check r.2.2.1
  rw [prop_CheckRequest_eq, spyref2_RequestFault_eq, s1, d1]
  simp only [within_in, in_val, bind_some_]
  refine .ite Iff.rfl (fun _ => .mk _ trivial) (fun _ => .ite (by simp) (fun _ => .mk _ trivial) (fun _ => .ite Iff.rfl (fun _ => .ite Iff.rfl (fun _ => .mk _ trivial) (fun hv => ?_)) (fun _ => .mk _ trivial)))
  rw [not_t, df] at hv
  have hv' : 1 ≤ r.2.2.2.2.1 ∧ r.2.2.2.2.1 ≤ 4 := Classical.byContradiction hv
  refine .ite Iff.rfl (fun h1 => .ite Iff.rfl (fun _ => .ite Iff.rfl (fun _ => .mk _ trivial) (fun _ => ?_)) (fun _ => .mk _ trivial)) (fun h1 => ?_)
  · rw [eq_t] at h1
    rw [spyref2_RequestFault.p9_eq]
    exact .right (fun q => by rw [dt] at q; omega) (fun _ => p12)
  · rw [eq_t] at h1
    rw [spyref2_RequestFault.p9_eq]
    simp only [in_val, bind_some_]
    refine .right (fun _ => ?_) (fun q => by rw [dt] at q; omega)
    exact .ite Iff.rfl (fun _ => .ite Iff.rfl (fun _ => .mk _ trivial) (fun _ => p12)) (fun _ => .mk _ trivial)
theorem request_len {r : Req} (h : spyref2_RequestFault r = some 0) : 1 ≤ r.2.2.2.1 ∧ r.2.2.2.1 ≤ 8 ∧ 1 ≤ r.2.2.2.2.1 ∧ r.2.2.2.2.1 ≤ 4 := by
  obtain ⟨e, s1, d1⟩ := dir_check r.2.2.1
  rw [spyref2_RequestFault_eq, in_val, in_val, in_val, d1] at h
  simp only [bind_some_] at h
  obtain ⟨_, h⟩ := ite_1 (by omega) h
  obtain ⟨_, h⟩ := ite_1 (by omega) h
  obtain ⟨h1, h⟩ := ite_0 (by omega) h
  obtain ⟨h2, h⟩ := ite_1 (by omega) h
  rw [not_f, dt] at h1
  rw [not_t, df] at h2
  have : 1 ≤ r.2.2.2.2.1 ∧ r.2.2.2.2.1 ≤ 4 := Classical.byContradiction h2
  exact ⟨h1.1, h1.2, this⟩
theorem both_eq (n : Night) (r : Req) : ∃ e, window_both n r = some e ∧ spyref2_NightRequestFault n r = some e ∧ (e = 0 → NightOk n ∧ spyref2_RequestFault r = some 0) := by
  obtain ⟨h1, e, h2⟩ := night_eq n
  obtain ⟨f, h3, h4, _⟩ := request_same r
  rw [window_both_eq, spyref2_NightRequestFault_eq, h1, h2, h3, h4, bind_some_, bind_some_]
  by_cases h : e = 0
  · rw [if_neg (by rw [ne_t]; exact fun q => q h)]
    subst h
    exact ⟨f, rfl, rfl, fun q => ⟨night_ok h2, by rw [q]⟩⟩
  · rw [if_pos (by rw [ne_t]; exact h)]
    exact ⟨e, rfl, rfl, fun q => absurd q h⟩

end Go.Proofs.YtionphbdphbpnaaGreat.Pure
