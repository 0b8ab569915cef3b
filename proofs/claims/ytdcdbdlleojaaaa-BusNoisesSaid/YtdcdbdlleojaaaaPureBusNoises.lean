/- BusNoises: the pure statement, proved. -/
import Derived.Test.YtdcdbdlleojaaaaEA0
import Derived.Test.YtdcdbdlleojaaaaEA1
import Derived.Test.YtdcdbdlleojaaaaEA2
import Derived.Test.YtdcdbdlleojaaaaEA3
import Derived.Test.YtdcdbdlleojaaaaEA4
import Derived.Test.YtdcdbdlleojaaaaPl
import Derived.Test.YtdcdbdlleojaaaaLemBus
import Derived.Test.YtdcdbdlleojaaaaLemBusB
namespace Go.Proofs.Ytdcdbdlleojaaaa.Pure
set_option linter.unusedVariables false
set_option linter.unusedSimpArgs false
open Go Go.RowKit Go.Proofs.Ytdcdbdlleojaaaa.Pv Go.Proofs.Ytdcdbdlleojaaaa.Pl Go.Proofs.Ytdcdbdlleojaaaa.EA

def flip1 (acc : List Int) (i : Int) : List Int :=
  if 0 ≤ i ∧ i < 8 * (acc.length : Int) then acc.set (i / 8).toNat (IntKind.u8.wrap (bitop .xor .u8 (acc.getD (i / 8).toNat 0) ([1, 2, 4, 8, 16, 32, 64, 128].getD (i % 8).toNat 0))) else acc
theorem flip_len (acc : List Int) (i : Int) : (flip1 acc i).length = acc.length := by
  unfold flip1
  split
  · simp
  · rfl
theorem pow_eq (r : Int) (h0 : 0 ≤ r) (h1 : r < 8) : IntKind.u8.wrap (1 * 2 ^ min r.toNat 8) = [1, 2, 4, 8, 16, 32, 64, 128].getD r.toNat 0 := by
  have : r = 0 ∨ r = 1 ∨ r = 2 ∨ r = 3 ∨ r = 4 ∨ r = 5 ∨ r = 6 ∨ r = 7 := by omega
  rcases this with rfl | rfl | rfl | rfl | rfl | rfl | rfl | rfl <;> decide +kernel
theorem noise_all (t : List Int) (ht : t.length < 9223372036854775807) (hw : ∀ x, x ∈ t → x ≤ 9223372036854775807) : ∀ (d i : Nat) (acc : List Int), i + d = t.length → acc.length ≤ 1000 → bus_Noise.p5 t (t.length : Int) (i : Int) acc = some ([126] ++ stuffL ((t.drop i).foldl flip1 acc), 0)
  | 0, i, acc, h, hl => by
    rw [bus_Noise.p5_eq, if_neg (by rw [dt]; omega), List.drop_eq_nil_of_le (by omega), bus_stuff _ (by omega)]
    rfl
  | d + 1, i, acc, h, hl => by
    have h1 : i < t.length := by omega
    have step : ∀ y : List Int, flip1 acc t[i] = y → bus_Noise.p5 t (t.length : Int) ((i + 1 : Nat) : Int) y = some ([126] ++ stuffL ((t.drop i).foldl flip1 acc), 0) := by
      intro y e
      have := flip_len acc t[i]
      rw [noise_all t ht hw d (i + 1) _ (by omega) (by rw [← e]; omega), List.drop_eq_getElem_cons h1, List.foldl_cons, e]
    have hv := hw t[i] (List.getElem_mem h1)
    rw [bus_Noise.p5_eq, if_pos (by rw [dt]; omega), if_pos (by omega), if_pos (by omega), getD_int _ t h1, wi_nat (by omega), wi (x := 8 * (acc.length : Int)) (by omega) (by omega)]
    simp only [dt]
    by_cases a : 0 ≤ t[i]
    · rw [if_pos a]
      by_cases b : t[i] < 8 * (acc.length : Int)
      · rw [if_pos b, Int.tdiv_eq_ediv_of_nonneg a, Int.tmod_eq_emod_of_nonneg a, wi (x := t[i] / 8) (by omega) (by omega), if_pos (by omega), if_pos (by omega), if_neg (by omega), if_pos (by omega), if_pos (by omega), pow_eq _ (by omega) (by omega)]
        exact step _ (by rw [flip1, if_pos ⟨a, b⟩])
      · rw [if_neg b]
        exact step _ (by rw [flip1, if_neg (by omega)])
    · rw [if_neg a]
      exact step _ (by rw [flip1, if_neg (by omega)])
theorem law_noise (b5 : List Int) (t : List Int) (ht : t.length < 9223372036854775807) (hw : ∀ x, x ∈ t → x ≤ 9223372036854775807) : ∀ (d i : Nat) (acc : List Int), i + d = t.length → acc.length ≤ 1000 → spylaw2_BusNoises.p9 b5 0 t (t.length : Int) (i : Int) acc = some ((strOf b5).toList == (strOf ([126] ++ stuffL ((t.drop i).foldl flip1 acc))).toList)
  | 0, i, acc, h, hl => by
    rw [spylaw2_BusNoises.p9_eq, if_neg (by rw [dt]; omega), if_pos (by simp), List.drop_eq_nil_of_le (by omega), ref_stuff _ (by omega)]
    rfl
  | d + 1, i, acc, h, hl => by
    have h1 : i < t.length := by omega
    have step : ∀ y : List Int, flip1 acc t[i] = y → spylaw2_BusNoises.p9 b5 0 t (t.length : Int) ((i + 1 : Nat) : Int) y = some ((strOf b5).toList == (strOf ([126] ++ stuffL ((t.drop i).foldl flip1 acc))).toList) := by
      intro y e
      have := flip_len acc t[i]
      rw [law_noise b5 t ht hw d (i + 1) _ (by omega) (by rw [← e]; omega), List.drop_eq_getElem_cons h1, List.foldl_cons, e]
    have hv := hw t[i] (List.getElem_mem h1)
    rw [spylaw2_BusNoises.p9_eq, if_pos (by rw [dt]; omega), if_pos (by omega), if_pos (by omega), getD_int _ t h1, wi_nat (by omega)]
    simp only [dt]
    by_cases a : 0 ≤ t[i]
    · rw [if_pos a, Int.tdiv_eq_ediv_of_nonneg a, Int.tmod_eq_emod_of_nonneg a, wi (x := t[i] / 8) (by omega) (by omega)]
      by_cases b : t[i] / 8 < (acc.length : Int)
      · rw [if_pos b, if_pos (by omega), if_pos (by omega), if_pos (by omega), if_pos (by omega), if_pos (by omega), if_pos (by omega)]
        exact step _ (by rw [flip1, if_pos ⟨a, by omega⟩])
      · rw [if_neg b]
        exact step _ (by rw [flip1, if_neg (by omega)])
    · rw [if_neg a]
      exact step _ (by rw [flip1, if_neg (by omega)])
theorem BusNoises : ∀ (x0 : Int × Int × Int × List Int) (x1 : List Int), goodT Try.prog (.prod (.int .i64) (.prod (.int .i64) (.prod (.int .i64) (.list false 5 (.int .u8))))) x0 → goodT Try.prog (.list false 3 (.int .i64)) x1 → spylaw2_BusNoises x0 x1 = some true := by
  intro p t hp ht
  have hd := good_packet hp
  rw [goodT] at ht
  have hb : Try.prog.bytesOf 3 = 8 := by kernel_rfl
  rw [hb] at ht
  have hl : t.length < 9223372036854775807 := by omega
  have hw : ∀ x, x ∈ t → x ≤ 9223372036854775807 := fun x hx => (wf64 (ht.2.2 x hx)).2
  rw [spylaw2_BusNoises_eq, buses, bind_some_, if_neg (by simp), bus_Noise_eq, bus_body p hd]
  by_cases h : pfault p = 0
  · have := body_len p
    have := (fault_0 h).2
    have n := noise_all t hl hw t.length 0 (bodyL p) (by omega) (by omega)
    have m := law_noise ([126] ++ stuffL ((t.drop 0).foldl flip1 (bodyL p))) t hl hw t.length 0 (bodyL p) (by omega) (by omega)
    rw [show ((0 : Nat) : Int) = 0 from rfl] at n m
    rw [if_pos h, bind_some_, if_neg (by rw [ne_t]; simp), n, bind_some_, ref_fault, bind_some_, if_neg (by rw [ne_t]; omega), ref_body p hd h, bind_some_, m, strs]
  · rw [if_neg h, bind_some_, if_pos (by rw [ne_t]; exact h), bind_some_, ref_fault, bind_some_, if_pos (by rw [ne_t]; exact h), if_pos (by simp)]
    simp

end Go.Proofs.Ytdcdbdlleojaaaa.Pure
