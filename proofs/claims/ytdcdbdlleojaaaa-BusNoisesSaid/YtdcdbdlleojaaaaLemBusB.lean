/- Stuffing, faults and bodies. -/
import Derived.Test.YtdcdbdlleojaaaaEA0
import Derived.Test.YtdcdbdlleojaaaaEA1
import Derived.Test.YtdcdbdlleojaaaaEA2
import Derived.Test.YtdcdbdlleojaaaaEA3
import Derived.Test.YtdcdbdlleojaaaaEA4
import Derived.Test.YtdcdbdlleojaaaaPl
import Derived.Test.YtdcdbdlleojaaaaLemBus
namespace Go.Proofs.Ytdcdbdlleojaaaa.Pure
set_option linter.unusedVariables false
set_option linter.unusedSimpArgs false
open Go Go.RowKit Go.Proofs.Ytdcdbdlleojaaaa.Pv Go.Proofs.Ytdcdbdlleojaaaa.Pl Go.Proofs.Ytdcdbdlleojaaaa.EA

/-! ### stuffing, faults and bodies, both ways -/
def stf (x : Int) : List Int := if x = 126 then [125, 94] else if x = 125 then [125, 93] else [x]
def stuffL : List Int → List Int
  | [] => [126]
  | x :: r => stf x ++ stuffL r
theorem xor126 : IntKind.u8.wrap (bitop .xor .u8 126 32) = 94 := by decide +kernel
theorem xor125 : IntKind.u8.wrap (bitop .xor .u8 125 32) = 93 := by decide +kernel
theorem bus_stuff_all (t : List Int) (ht : t.length < 9223372036854775807) : ∀ (d i : Nat) (acc : List Int), i + d = t.length → acc.length + 2 * d + 1 ≤ 140737488355328 → bus_Stuff.p3 t (t.length : Int) (i : Int) acc = some (acc ++ stuffL (t.drop i))
  | 0, i, acc, h, hl => by
    rw [bus_Stuff.p3_eq, if_neg (by rw [dt]; omega), List.drop_eq_nil_of_le (by omega), if_pos (by omega)]
    rfl
  | d + 1, i, acc, h, hl => by
    have h1 : i < t.length := by omega
    have step : ∀ y : List Int, y.length ≤ 2 → stf t[i] = y → bus_Stuff.p3 t (t.length : Int) ((i + 1 : Nat) : Int) (acc ++ y) = some (acc ++ stuffL (t.drop i)) := by
      intro y hy e
      rw [bus_stuff_all t ht d (i + 1) _ (by omega) (by rw [List.length_append]; omega), List.drop_eq_getElem_cons h1, stuffL, e, List.append_assoc]
    rw [bus_Stuff.p3_eq, if_pos (by rw [dt]; omega), if_pos (by omega), if_pos (by omega), getD_int _ t h1, wi_nat (by omega)]
    simp only [eq_f, eq_t]
    by_cases a : t[i] = 126
    · rw [if_neg (by omega), if_pos (by omega), a, xor126]
      exact step _ (by simp) (by rw [stf, if_pos a])
    · rw [if_pos a]
      by_cases b : t[i] = 125
      · rw [if_pos b, if_pos (by omega), b, xor125]
        exact step _ (by simp) (by rw [stf, if_neg a, if_pos b])
      · rw [if_neg b, if_pos (by omega)]
        exact step _ (by simp) (by rw [stf, if_neg a, if_neg b])
theorem ref_stuff_all (t : List Int) (ht : t.length < 9223372036854775807) : ∀ (d i : Nat) (acc : List Int), i + d = t.length → acc.length + 2 * d + 1 ≤ 140737488355328 → spyref2_Stuffed.p3 t (t.length : Int) (i : Int) acc = some (acc ++ stuffL (t.drop i))
  | 0, i, acc, h, hl => by
    rw [spyref2_Stuffed.p3_eq, if_neg (by rw [dt]; omega), List.drop_eq_nil_of_le (by omega), if_pos (by omega)]
    rfl
  | d + 1, i, acc, h, hl => by
    have h1 : i < t.length := by omega
    have step : ∀ y : List Int, y.length ≤ 2 → stf t[i] = y → spyref2_Stuffed.p3 t (t.length : Int) ((i + 1 : Nat) : Int) (acc ++ y) = some (acc ++ stuffL (t.drop i)) := by
      intro y hy e
      rw [ref_stuff_all t ht d (i + 1) _ (by omega) (by rw [List.length_append]; omega), List.drop_eq_getElem_cons h1, stuffL, e, List.append_assoc]
    rw [spyref2_Stuffed.p3_eq, if_pos (by rw [dt]; omega), if_pos (by omega), if_pos (by omega), getD_int _ t h1, wi_nat (by omega)]
    simp only [eq_t]
    by_cases a : t[i] = 126
    · rw [if_pos a, if_pos (by omega)]
      exact step _ (by simp) (by rw [stf, if_pos a])
    · rw [if_neg a]
      by_cases b : t[i] = 125
      · rw [if_pos b, if_pos (by omega)]
        exact step _ (by simp) (by rw [stf, if_neg a, if_pos b])
      · rw [if_neg b, if_pos (by omega)]
        exact step _ (by simp) (by rw [stf, if_neg a, if_neg b])
theorem bus_stuff (b : List Int) (h : b.length ≤ 1048576) : bus_Stuff b = some ([126] ++ stuffL b) := by
  rw [bus_Stuff_eq]
  exact bus_stuff_all b (by omega) b.length 0 _ (by omega) (by simp; omega)
theorem ref_stuff (b : List Int) (h : b.length ≤ 1048576) : spyref2_Stuffed b = some ([126] ++ stuffL b) := by
  rw [spyref2_Stuffed_eq]
  exact ref_stuff_all b (by omega) b.length 0 _ (by omega) (by simp; omega)
theorem buses : spylaw2_buses = some true := callL_some.2 ⟨200, by kernel_rfl⟩
/-- A packet's numbers stand inside their limits. -/
def pok (p : Int × Int × Int × List Int) : Prop := 0 ≤ p.1 ∧ p.1 ≤ 15 ∧ 0 ≤ p.2.1 ∧ p.2.1 ≤ 15 ∧ 0 ≤ p.2.2.1 ∧ p.2.2.1 ≤ 65535
instance (p : Int × Int × Int × List Int) : Decidable (pok p) := by unfold pok; infer_instance
def pfault (p : Int × Int × Int × List Int) : Int := if pok p then (if p.2.2.2.length ≤ 16 then 0 else 2) else 4
theorem pf4 {p : Int × Int × Int × List Int} (h : ¬ pok p) : some 4 = some (pfault p) := by rw [pfault, if_neg h]
theorem pf2 {p : Int × Int × Int × List Int} (h : pok p) (k : ¬ p.2.2.2.length ≤ 16) : some 2 = some (pfault p) := by rw [pfault, if_pos h, if_neg k]
theorem pf0 {p : Int × Int × Int × List Int} (h : pok p) (k : p.2.2.2.length ≤ 16) : some 0 = some (pfault p) := by rw [pfault, if_pos h, if_pos k]
theorem bus_check (p : Int × Int × Int × List Int) : bus_Check p = some (pfault p) := by
  simp only [bus_Check_eq, dt, df]
  repeat' (refine ite_eq (fun _ => ?_) (fun _ => ?_))
  all_goals first | exact pf4 (by unfold pok; omega) | exact pf2 (by unfold pok; omega) (by omega) | exact pf0 (by unfold pok; omega) (by omega)
theorem ref_fault (p : Int × Int × Int × List Int) : spyref2_PacketFault p = some (pfault p) := by
  simp only [spyref2_PacketFault_eq, spyref2_In_eq, bind_ite, bind_some_, dt, df, not_f, not_t, Bool.false_eq_true, decide_eq_true_eq, decide_eq_false_iff_not, if_true, if_false]
  repeat' (refine ite_eq (fun _ => ?_) (fun _ => ?_))
  all_goals first | exact pf4 (by unfold pok; omega) | exact pf2 (by unfold pok; omega) (by omega) | exact pf0 (by unfold pok; omega) (by omega) | omega
def headL (p : Int × Int × Int × List Int) : List Int := [16 * p.1 + p.2.1, p.2.2.1 / 256, p.2.2.1 % 256] ++ p.2.2.2
def bodyL (p : Int × Int × Int × List Int) : List Int := headL p ++ [sumOf (headL p) / 256, sumOf (headL p) % 256]
theorem or16 : ∀ a b : Fin 16, IntKind.u8.wrap (IntKind.i64.wrap (bitop .or .i64 (IntKind.i64.wrap ((a.val : Int) * 16)) (b.val : Int))) = 16 * (a.val : Int) + (b.val : Int) := by decide +kernel
theorem or_eq (a b : Int) (ha : 0 ≤ a ∧ a ≤ 15) (hb : 0 ≤ b ∧ b ≤ 15) : IntKind.u8.wrap (IntKind.i64.wrap (bitop .or .i64 (IntKind.i64.wrap (a * 16)) b)) = 16 * a + b := by
  obtain ⟨m, rfl⟩ := Int.eq_ofNat_of_zero_le ha.1
  obtain ⟨n, rfl⟩ := Int.eq_ofNat_of_zero_le hb.1
  exact or16 ⟨m, by omega⟩ ⟨n, by omega⟩
theorem hi8 (x : Int) (h0 : 0 ≤ x) (h1 : x ≤ 65535) : IntKind.u8.wrap (Int.fdiv x 256) = x / 256 := by
  rw [Int.fdiv_eq_ediv_of_nonneg _ (by omega), IntKind.wrap_u8]
  omega
theorem lo8 (x : Int) : IntKind.u8.wrap x = x % 256 := IntKind.wrap_u8 x
theorem hi8' (x : Int) (h0 : 0 ≤ x) (h1 : x ≤ 65535) : IntKind.u8.wrap (IntKind.i64.wrap (Int.tdiv x 256)) = x / 256 := by
  rw [Int.tdiv_eq_ediv_of_nonneg (by omega), wi (by omega) (by omega), IntKind.wrap_u8]
  omega
theorem lo8' (x : Int) (h0 : 0 ≤ x) : IntKind.u8.wrap (Int.tmod x 256) = x % 256 := by
  rw [Int.tmod_eq_emod_of_nonneg h0, IntKind.wrap_u8]
  omega
theorem add8 (a b : Int) (ha : 0 ≤ a ∧ a ≤ 15) (hb : 0 ≤ b ∧ b ≤ 15) : IntKind.u8.wrap (IntKind.i64.wrap (IntKind.i64.wrap (16 * a) + b)) = 16 * a + b := by
  rw [wi (x := 16 * a) (by omega) (by omega), wi (by omega) (by omega), IntKind.wrap_u8]
  omega
theorem fault_0 {p : Int × Int × Int × List Int} (h : pfault p = 0) : pok p ∧ p.2.2.2.length ≤ 16 := by
  unfold pfault at h
  split at h
  · split at h
    · exact ⟨by assumption, by assumption⟩
    · omega
  · omega
theorem head_bytes {p : Int × Int × Int × List Int} (h : pok p) (hd : ∀ x, x ∈ p.2.2.2 → 0 ≤ x ∧ x ≤ 255) : ∀ x, x ∈ headL p → 0 ≤ x ∧ x ≤ 255 := by
  unfold pok at h
  intro x hx
  unfold headL at hx
  simp only [List.cons_append, List.nil_append, List.mem_cons] at hx
  rcases hx with rfl | rfl | rfl | hx
  · omega
  · omega
  · omega
  · exact hd x hx
theorem head_len (p : Int × Int × Int × List Int) : (headL p).length = 3 + p.2.2.2.length := by
  unfold headL
  simp only [List.length_append, List.length_cons, List.length_nil]
theorem body_len (p : Int × Int × Int × List Int) : (bodyL p).length = 5 + p.2.2.2.length := by
  unfold bodyL
  simp only [List.length_append, List.length_cons, List.length_nil, head_len]
  omega
theorem bus_body (p : Int × Int × Int × List Int) (hd : ∀ x, x ∈ p.2.2.2 → 0 ≤ x ∧ x ≤ 255) : bus_Body p = if pfault p = 0 then some (bodyL p, 0) else some ([], pfault p) := by
  rw [bus_Body_eq, bus_check, bind_some_]
  by_cases h : pfault p = 0
  · obtain ⟨k, l⟩ := fault_0 h
    have kb := head_bytes k hd
    have kl := head_len p
    have s := sumOf_in (headL p)
    unfold pok at k
    rw [if_pos h, if_neg (by rw [ne_t]; omega), if_pos (by omega), or_eq _ _ ⟨by omega, by omega⟩ ⟨by omega, by omega⟩, hi8 _ (by omega) (by omega), lo8]
    have e : [16 * p.1 + p.2.1, p.2.2.1 / 256, p.2.2.1 % 256] ++ p.2.2.2 = headL p := rfl
    rw [e, bus_sum _ (by omega) kb, bind_some_, if_pos (by omega), hi8 _ (by omega) (by omega), lo8]
    rfl
  · rw [if_neg h, if_pos (by rw [ne_t]; exact h)]
theorem ref_body (p : Int × Int × Int × List Int) (hd : ∀ x, x ∈ p.2.2.2 → 0 ≤ x ∧ x ≤ 255) (h : pfault p = 0) : spyref2_BodyOf p = some (bodyL p) := by
  obtain ⟨k, l⟩ := fault_0 h
  have kb := head_bytes k hd
  have kl := head_len p
  have s := sumOf_in (headL p)
  unfold pok at k
  rw [spyref2_BodyOf_eq, if_pos (by omega), add8 _ _ ⟨by omega, by omega⟩ ⟨by omega, by omega⟩, hi8' _ (by omega) (by omega), lo8' _ (by omega)]
  have e : [16 * p.1 + p.2.1, p.2.2.1 / 256, p.2.2.1 % 256] ++ p.2.2.2 = headL p := rfl
  rw [e, ref_sum _ (by omega) kb, bind_some_, if_pos (by omega), hi8' _ (by omega) (by omega), lo8' _ (by omega)]
  rfl
theorem good_packet {p : Int × Int × Int × List Int} (h : goodT Try.prog (.prod (.int .i64) (.prod (.int .i64) (.prod (.int .i64) (.list false 5 (.int .u8))))) p) : ∀ x, x ∈ p.2.2.2 → 0 ≤ x ∧ x ≤ 255 := by
  rw [goodT, goodT, goodT, goodT] at h
  intro x hx
  exact wf8 (h.2.2.2.2.2 x hx)
theorem good_bytes {b : List Int} (h : goodT Try.prog (.list false 5 (.int .u8)) b) : b.length < 9223372036854775807 ∧ ∀ x, x ∈ b → 0 ≤ x ∧ x ≤ 255 := by
  rw [goodT] at h
  have hb : Try.prog.bytesOf 5 = 1 := by kernel_rfl
  rw [hb] at h
  exact ⟨by omega, fun x hx => wf8 (h.2.2 x hx)⟩
theorem strs (a : List Int) : ((strOf a).toList == (strOf a).toList) = true := beq_self_eq_true _

end Go.Proofs.Ytdcdbdlleojaaaa.Pure
