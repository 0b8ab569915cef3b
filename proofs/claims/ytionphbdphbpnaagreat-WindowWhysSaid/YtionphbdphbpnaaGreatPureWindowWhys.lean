/- WindowWhys: the pure statement, proved. -/
import Derived.Test.YtionphbdphbpnaaGreatEA0
import Derived.Test.YtionphbdphbpnaaGreatEA1
import Derived.Test.YtionphbdphbpnaaGreatEA2
import Derived.Test.YtionphbdphbpnaaGreatEA3
import Derived.Test.YtionphbdphbpnaaGreatEA4
import Derived.Test.YtionphbdphbpnaaGreatPl
import Derived.Test.YtionphbdphbpnaaGreatLemNum
import Derived.Test.YtionphbdphbpnaaGreatLemDiv
import Derived.Test.YtionphbdphbpnaaGreatLemNight
import Derived.Test.YtionphbdphbpnaaGreatLemBound
import Derived.Test.YtionphbdphbpnaaGreatLemHeight
import Derived.Test.YtionphbdphbpnaaGreatLemSame
import Derived.Test.YtionphbdphbpnaaGreatLemWin
namespace Go.Proofs.YtionphbdphbpnaaGreat.Pure
set_option linter.unusedVariables false
set_option linter.unusedSimpArgs false
open Go Go.RowKit Go.Proofs.YtionphbdphbpnaaGreat.Pv Go.Proofs.YtionphbdphbpnaaGreat.Pl Go.Proofs.YtionphbdphbpnaaGreat.EA

theorem WindowWhys : ∀ (x0 : (Int × Int) × (Int × Int × Int × Int) × Int × Int × Int × (Int × Int × Int) × (Int × Int × Int) × Int × List Int) (x1 : Int × Int × (Int × Int × Int) × Int × Int × Int × Int × Int × Int × Int × Int) (x2 : Int), goodT Tryz.prog (.prod (.prod (.int .i64) (.int .i64)) (.prod (.prod (.int .i64) (.prod (.int .i64) (.prod (.int .i64) (.int .i64)))) (.prod (.int .i64) (.prod (.int .i64) (.prod (.int .i64) (.prod (.prod (.int .i64) (.prod (.int .i64) (.int .i64))) (.prod (.prod (.int .i64) (.prod (.int .i64) (.int .i64))) (.prod (.int .i64) (.list false 3 (.int .i64)))))))))) x0 → goodT Tryz.prog (.prod (.int .i64) (.prod (.int .i64) (.prod (.prod (.int .i64) (.prod (.int .i64) (.int .i64))) (.prod (.int .i64) (.prod (.int .i64) (.prod (.int .i64) (.prod (.int .i64) (.prod (.int .i64) (.prod (.int .i64) (.prod (.int .i64) (.int .i64))))))))))) x1 → goodT Tryz.prog (.int .i64) x2 → spylaw2_WindowWhys x0 x1 x2 = some true := by
  intro n r k hn hr hk
  rw [spylaw2_WindowWhys_eq, windows_ok, bind_some_, if_neg (by decide), window_Why_eq]
  obtain ⟨e, h1, h2, h3⟩ := both_eq n r
  rw [h1, h2, bind_some_, in_val]
  have p7 : ∀ (w e want : Int), (want ≠ 0 → w = 0 ∧ e = want) → (want = 0 → e = 0 ∧ spyref2_Closed n r k = some w) → spylaw2_WindowWhys.p7 k w e want n r = some true := by
    intro w e want q1 q2
    rw [spylaw2_WindowWhys.p7_eq]
    by_cases hw : want = 0
    · obtain ⟨rfl, hc⟩ := q2 hw
      rw [if_neg (by rw [ne_t]; exact fun q => q hw), if_pos (by decide), hc, bind_some_]
      simp
    · obtain ⟨rfl, rfl⟩ := q1 hw
      rw [if_pos (by rw [ne_t]; exact hw), if_pos (by decide)]
      simp
  by_cases he : e = 0
  · subst he
    obtain ⟨ok, _⟩ := h3 rfl
    have hs := ok.slots
    have hc := ok.cloud
    rw [if_neg (by decide), wi (x := n.2.2.2.2.1 - 1) (by omega) (by omega)]
    by_cases hk0 : k < 0
    · rw [if_neg (by rw [df]; exact fun q => q hk0), bind_some_, bind_some_, if_pos (by decide), bind_some_, if_pos (by rw [not_t, df]; omega)]
      exact p7 _ _ _ (fun _ => ⟨rfl, rfl⟩) (fun q => by cases q)
    · by_cases hk1 : k ≥ n.2.2.2.2.1
      · rw [if_pos (by rw [df]; exact hk0), if_pos (by rw [dt]; exact hk1), bind_some_, bind_some_, if_pos (by decide), bind_some_, if_pos (by rw [not_t, df]; omega)]
        exact p7 _ _ _ (fun _ => ⟨rfl, rfl⟩) (fun q => by cases q)
      · obtain ⟨c, c1, c2, _⟩ := closed_same n r k (by omega) (by omega)
        rw [if_pos (by rw [df]; exact hk0), if_neg (by rw [dt]; exact hk1), c1, bind_some_, bind_some_, bind_some_, if_pos (by decide), bind_some_, if_neg (by rw [not_t, df]; omega)]
        exact p7 _ _ _ (fun q => absurd rfl q) (fun _ => ⟨rfl, c2⟩)
  · rw [if_pos (by rw [ne_t]; exact he), bind_some_, bind_some_, if_neg (by rw [eq_t]; exact he)]
    exact p7 _ _ _ (fun _ => ⟨rfl, rfl⟩) (fun q => absurd q he)

end Go.Proofs.YtionphbdphbpnaaGreat.Pure
