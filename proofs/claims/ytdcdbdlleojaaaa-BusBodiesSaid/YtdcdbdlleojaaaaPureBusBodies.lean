/- BusBodies: the pure statement, proved. -/
import Derived.Test.YtdcdbdlleojaaaaEA0
import Derived.Test.YtdcdbdlleojaaaaEA1
import Derived.Test.YtdcdbdlleojaaaaEA2
import Derived.Test.YtdcdbdlleojaaaaEA3
import Derived.Test.YtdcdbdlleojaaaaEA4
import Derived.Test.YtdcdbdlleojaaaaPl
import Derived.Test.YtdcdbdlleojaaaaLemBus
import Derived.Test.YtdcdbdlleojaaaaLemBusB
namespace Go.Proofs.Ytdcdbdlleojaaaa.Pure
set_option linter.unusedVariables false
set_option linter.unusedSimpArgs false
open Go Go.RowKit Go.Proofs.Ytdcdbdlleojaaaa.Pv Go.Proofs.Ytdcdbdlleojaaaa.Pl Go.Proofs.Ytdcdbdlleojaaaa.EA

theorem bus_encode (p : Int × Int × Int × List Int) (hd : ∀ x, x ∈ p.2.2.2 → 0 ≤ x ∧ x ≤ 255) : bus_Encode p = if pfault p = 0 then some ([126] ++ stuffL (bodyL p), 0) else some ([], pfault p) := by
  rw [bus_Encode_eq, bus_body p hd]
  by_cases h : pfault p = 0
  · have := body_len p
    have := (fault_0 h).2
    rw [if_pos h, if_pos h, bind_some_, if_neg (by rw [ne_t]; simp), bus_stuff _ (by simp only []; omega), bind_some_]
  · rw [if_neg h, if_neg h, bind_some_, if_pos (by rw [ne_t]; exact h)]
theorem BusBodies : ∀ (x0 : Int × Int × Int × List Int) (x1 : List Int), goodT Try.prog (.prod (.int .i64) (.prod (.int .i64) (.prod (.int .i64) (.list false 5 (.int .u8))))) x0 → goodT Try.prog (.list false 5 (.int .u8)) x1 → spylaw2_BusBodies x0 x1 = some true := by
  intro p b hp hb
  have hd := good_packet hp
  obtain ⟨hl, hx⟩ := good_bytes hb
  have s := sumOf_in b
  rw [spylaw2_BusBodies_eq, buses, bind_some_, if_pos (by simp), bus_check, bind_some_, ref_fault, bind_some_, if_pos (by simp), bus_sum b hl hx, bind_some_, ref_sum b hl hx, bind_some_, if_neg (by rw [ne_t, wi (by omega) (by omega)]; simp), bus_body p hd, bus_encode p hd]
  by_cases h : pfault p = 0
  · have := body_len p
    have := (fault_0 h).2
    rw [if_pos h, if_pos h, bind_some_, bind_some_, bind_some_, if_neg (by rw [ne_t]; omega), if_pos (by simp), if_pos (by simp), ref_body p hd h, bind_some_, if_pos (strs _), ref_stuff _ (by simp only []; omega), bind_some_, strs]
  · rw [if_neg h, if_neg h, bind_some_, bind_some_, bind_some_, if_pos (by rw [ne_t]; exact h), if_pos (by simp), if_pos (by simp), if_pos (by simp)]
    simp

end Go.Proofs.Ytdcdbdlleojaaaa.Pure
