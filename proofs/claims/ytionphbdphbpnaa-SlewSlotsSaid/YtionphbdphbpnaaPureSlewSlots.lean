/- SlewSlots: the pure statement, proved. -/
import Derived.Test.YtionphbdphbpnaaEA0
import Derived.Test.YtionphbdphbpnaaEA1
import Derived.Test.YtionphbdphbpnaaEA2
import Derived.Test.YtionphbdphbpnaaEA3
import Derived.Test.YtionphbdphbpnaaPl
import Derived.Test.YtionphbdphbpnaaLemNum
import Derived.Test.YtionphbdphbpnaaLemDiv
import Derived.Test.YtionphbdphbpnaaLemNight
import Derived.Test.YtionphbdphbpnaaLemAim
namespace Go.Proofs.Ytionphbdphbpnaa.Pure
set_option linter.unusedVariables false
set_option linter.unusedSimpArgs false
open Go Go.RowKit Go.Proofs.Ytionphbdphbpnaa.Pv Go.Proofs.Ytionphbdphbpnaa.Pl Go.Proofs.Ytionphbdphbpnaa.EA

theorem slots_p7 (long : Int) (h0 : 60000 ≤ long) (h1 : long ≤ 1800000) : ∀ (u : Nat) (c left : Int), 0 ≤ c → c + left ≤ 1048576000 → -1800000 ≤ left → c ≤ 1048576000 → left ≤ u → spyref2_SlotsOf.p7 long c left = some (c + (if left ≤ 0 then 0 else (left - 1) / long + 1)) := by
  intro u
  induction u with
  | zero =>
    intro c left hc hs hl hm hu
    rw [spyref2_SlotsOf.p7_eq, if_neg (by rw [dt]; omega), if_pos (by omega), Int.add_zero]
  | succ u ih =>
    intro c left hc hs hl hm hu
    rw [spyref2_SlotsOf.p7_eq]
    by_cases h : left > 0
    · rw [if_pos (by rw [dt]; exact h), if_neg (by omega), wi (x := c + 1) (by omega) (by omega), wi (x := left - long) (by omega) (by omega), ih (c + 1) (left - long) (by omega) (by omega) (by omega) (by omega) (by omega)]
      congr 1
      by_cases h2 : left - long ≤ 0
      · rw [if_pos h2, Int.ediv_eq_zero_of_lt (by omega) (by omega)]
        omega
      · rw [if_neg h2]
        have := Int.add_mul_ediv_right (left - long - 1) 1 (show long ≠ 0 by omega)
        rw [show left - long - 1 + 1 * long = left - 1 by omega] at this
        omega
    · rw [if_neg (by rw [dt]; exact h), if_pos (by omega), Int.add_zero]
theorem slots_both (n : Night) (k : Int) (hk : -9223372036854775808 ≤ k ∧ k ≤ 9223372036854775807) (hnight : prop_CheckNight n = some 0) (ok : NightOk n) : ∃ x, spyref2_SlotsOf n k = some x ∧ slew_Slots n k = some x := by
  rw [slew_Slots_eq, hnight, bind_some_, if_pos (by decide), spyref2_SlotsOf_eq]
  have hl := ok.long
  generalize n.2.2.2.1 = long at hl ⊢
  have fin : ∀ s : Int, 1 ≤ s → s ≤ 1048576 → IntKind.i64.wrap (Int.tdiv (IntKind.i64.wrap (IntKind.i64.wrap (IntKind.i64.wrap (s * 1000) + long) - 1)) long) = (s * 1000 - 1) / long + 1 := by
    intro s s0 s1
    rw [wi (x := s * 1000) (by omega) (by omega), wi (x := s * 1000 + long) (by omega) (by omega), wi (x := s * 1000 + long - 1) (by omega) (by omega), Int.tdiv_eq_ediv_of_nonneg (by omega)]
    have := Int.add_mul_ediv_right (s * 1000 - 1) 1 (show long ≠ 0 by omega)
    rw [show s * 1000 - 1 + 1 * long = s * 1000 + long - 1 by omega] at this
    rw [this]
    have d0 : 0 ≤ (s * 1000 - 1) / long := Int.ediv_nonneg (by omega) (by omega)
    have d1 : (s * 1000 - 1) / long ≤ s * 1000 - 1 := Int.ediv_le_self _ (by omega)
    rw [wi (by omega) (by omega)]
  by_cases h1 : k < 1
  · refine ⟨0, ?_, ?_⟩
    · rw [if_pos (by rw [dt]; exact h1)]
    · rw [if_pos (by rw [dt]; omega)]
  · by_cases h2 : k > 1048576
    · refine ⟨(1048576000 - 1) / long + 1, ?_, ?_⟩
      · rw [if_neg (by rw [dt]; exact h1), if_pos (by rw [dt]; exact h2), slots_p7 long (by omega) (by omega) 1048576000 0 1048576000 (by omega) (by omega) (by omega) (by omega) (by omega), if_neg (by omega), Int.zero_add]
      · rw [if_neg (by rw [dt]; omega), if_neg (by omega), if_pos (by omega), fin 1048576 (by omega) (by omega)]
        rfl
    · refine ⟨(k * 1000 - 1) / long + 1, ?_, ?_⟩
      · rw [if_neg (by rw [dt]; exact h1), if_neg (by rw [dt]; exact h2), wi (x := k * 1000) (by omega) (by omega), slots_p7 long (by omega) (by omega) 1048576000 0 (k * 1000) (by omega) (by omega) (by omega) (by omega) (by omega), if_neg (by omega), Int.zero_add]
      · rw [if_neg (by rw [dt]; omega), if_neg (by omega), if_neg (by omega), fin k (by omega) (by omega)]
theorem SlewSlots : ∀ (x0 : (Int × Int) × (Int × Int × Int × Int) × Int × Int × Int × (Int × Int × Int) × (Int × Int × Int) × Int × List Int) (x1 : Int), goodT Try.prog (.prod (.prod (.int .i64) (.int .i64)) (.prod (.prod (.int .i64) (.prod (.int .i64) (.prod (.int .i64) (.int .i64)))) (.prod (.int .i64) (.prod (.int .i64) (.prod (.int .i64) (.prod (.prod (.int .i64) (.prod (.int .i64) (.int .i64))) (.prod (.prod (.int .i64) (.prod (.int .i64) (.int .i64))) (.prod (.int .i64) (.list false 3 (.int .i64)))))))))) x0 → goodT Try.prog (.int .i64) x1 → spylaw2_SlewSlots x0 x1 = some true := by
  intro n k hn hk
  have wk := wf64 (show (Lit.int .i64 k).wf = true from hk)
  rw [spylaw2_SlewSlots_eq, axes_ok, bind_some_, if_neg (by decide)]
  obtain ⟨hnight, e, he⟩ := night_eq n
  rw [he, bind_some_]
  by_cases h0 : e = 0
  · subst h0
    obtain ⟨x, h1, h2⟩ := slots_both n k wk (hnight.trans he) (night_ok he)
    rw [if_pos (by decide), h1, h2, bind_some_, bind_some_]
    simp
  · rw [if_neg (by rw [eq_t]; exact h0), slew_Slots_eq, hnight, he, bind_some_, if_neg (by rw [ne_f]; exact h0), bind_some_]
    rfl

end Go.Proofs.Ytionphbdphbpnaa.Pure
