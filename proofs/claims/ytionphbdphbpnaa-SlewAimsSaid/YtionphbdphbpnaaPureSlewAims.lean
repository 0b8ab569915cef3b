/- SlewAims: the pure statement, proved. -/
import Derived.Test.YtionphbdphbpnaaEA0
import Derived.Test.YtionphbdphbpnaaEA1
import Derived.Test.YtionphbdphbpnaaEA2
import Derived.Test.YtionphbdphbpnaaEA3
import Derived.Test.YtionphbdphbpnaaPl
import Derived.Test.YtionphbdphbpnaaLemNum
import Derived.Test.YtionphbdphbpnaaLemDiv
import Derived.Test.YtionphbdphbpnaaLemNight
import Derived.Test.YtionphbdphbpnaaLemAim
namespace Go.Proofs.Ytionphbdphbpnaa.Pure
set_option linter.unusedVariables false
set_option linter.unusedSimpArgs false
open Go Go.RowKit Go.Proofs.Ytionphbdphbpnaa.Pv Go.Proofs.Ytionphbdphbpnaa.Pl Go.Proofs.Ytionphbdphbpnaa.EA

theorem SlewAims : ∀ (x0 : (Int × Int) × (Int × Int × Int × Int) × Int × Int × Int × (Int × Int × Int) × (Int × Int × Int) × Int × List Int) (x1 : Int × Int × Int) (x2 : Int), goodT Try.prog (.prod (.prod (.int .i64) (.int .i64)) (.prod (.prod (.int .i64) (.prod (.int .i64) (.prod (.int .i64) (.int .i64)))) (.prod (.int .i64) (.prod (.int .i64) (.prod (.int .i64) (.prod (.prod (.int .i64) (.prod (.int .i64) (.int .i64))) (.prod (.prod (.int .i64) (.prod (.int .i64) (.int .i64))) (.prod (.int .i64) (.list false 3 (.int .i64)))))))))) x0 → goodT Try.prog (.prod (.int .i64) (.prod (.int .i64) (.int .i64))) x1 → goodT Try.prog (.int .i64) x2 → spylaw2_SlewAims x0 x1 x2 = some true := by
  intro n v k hn hv hk
  rw [spylaw2_SlewAims_eq, axes_ok, bind_some_, if_neg (by decide), slew_Aim_eq]
  obtain ⟨hnight, e, he⟩ := night_eq n
  rw [hnight, he, bind_some_, in_val]
  obtain ⟨a, ha⟩ := angle_def (r := n.2.1) (IntKind.i64.wrap (n.2.2.1 + (IntKind.i64.wrap (k * n.2.2.2.1))))
  obtain ⟨p, hp⟩ := horizonAim_def n.1 a v
  rw [ha, bind_some_, hp, bind_some_]
  have p7 : ∀ (e : Int) (w : Int) (q : Int × Int), (w ≠ 0 → q = (0, 0) ∧ e = w) → (w = 0 → (q, e) = p) → spylaw2_SlewAims.p7 k e w n v q = some true := by
    intro e w q h1 h2
    rw [spylaw2_SlewAims.p7_eq]
    by_cases hw : w = 0
    · subst hw
      have := h2 rfl
      rw [if_neg (by decide), ha, bind_some_, hp, bind_some_, ← this, if_pos (by simp)]
      simp
    · obtain ⟨rfl, rfl⟩ := h1 hw
      rw [if_pos (by rw [ne_t]; exact hw), if_pos (by decide)]
      simp
  by_cases h0 : e = 0
  · subst h0
    rw [if_neg (by decide)]
    by_cases hk1 : k < 0
    · rw [if_neg (by rw [df]; exact fun q => q hk1), bind_some_, bind_some_, if_pos (by decide), bind_some_, if_pos (by rw [not_t, df]; omega)]
      exact p7 _ _ _ (fun _ => ⟨rfl, rfl⟩) (fun q => by cases q)
    · by_cases hk2 : k > n.2.2.2.2.1
      · rw [if_pos (by rw [df]; exact hk1), if_pos (by rw [dt]; exact hk2), bind_some_, bind_some_, if_pos (by decide), bind_some_, if_pos (by rw [not_t, df]; omega)]
        exact p7 _ _ _ (fun _ => ⟨rfl, rfl⟩) (fun q => by cases q)
      · rw [if_pos (by rw [df]; exact hk1), if_neg (by rw [dt]; exact hk2), bind_some_, bind_some_, if_pos (by decide), bind_some_, if_neg (by rw [not_t, df]; omega)]
        exact p7 _ _ _ (fun q => absurd rfl q) (fun _ => rfl)
  · rw [if_pos (by rw [ne_t]; exact h0), bind_some_, bind_some_, if_neg (by rw [eq_t]; exact h0)]
    exact p7 _ _ _ (fun _ => ⟨rfl, rfl⟩) (fun q => absurd q h0)

end Go.Proofs.Ytionphbdphbpnaa.Pure
