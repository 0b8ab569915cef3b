/- BusParses: the pure statement, proved. -/
import Derived.Test.YtdcdbdlleojaaaaEA0
import Derived.Test.YtdcdbdlleojaaaaEA1
import Derived.Test.YtdcdbdlleojaaaaEA2
import Derived.Test.YtdcdbdlleojaaaaEA3
import Derived.Test.YtdcdbdlleojaaaaEA4
import Derived.Test.YtdcdbdlleojaaaaPl
import Derived.Test.YtdcdbdlleojaaaaLemBus
import Derived.Test.YtdcdbdlleojaaaaLemBusB
namespace Go.Proofs.Ytdcdbdlleojaaaa.Pure
set_option linter.unusedVariables false
set_option linter.unusedSimpArgs false
open Go Go.RowKit Go.Proofs.Ytdcdbdlleojaaaa.Pv Go.Proofs.Ytdcdbdlleojaaaa.Pl Go.Proofs.Ytdcdbdlleojaaaa.EA

theorem and15 : ∀ a : Fin 256, IntKind.i64.wrap (IntKind.u8.wrap (bitop .and .u8 (a.val : Int) 15)) = (a.val : Int) % 16 := by decide +kernel
theorem and15_eq (x : Int) (h0 : 0 ≤ x) (h1 : x ≤ 255) : IntKind.i64.wrap (IntKind.u8.wrap (bitop .and .u8 x 15)) = x % 16 := by
  obtain ⟨n, rfl⟩ := Int.eq_ofNat_of_zero_le h0
  exact and15 ⟨n, by omega⟩
theorem or256 (x y : Int) (hx : 0 ≤ x ∧ x ≤ 255) (hy : 0 ≤ y ∧ y ≤ 255) : IntKind.i64.wrap (bitop .or .i64 (IntKind.i64.wrap (IntKind.i64.wrap x * 256)) (IntKind.i64.wrap y)) = 256 * x + y := by
  rw [wi (x := x) (by omega) (by omega), wi (x := x * 256) (by omega) (by omega), wi (x := y) (by omega) (by omega)]
  obtain ⟨m, rfl⟩ := Int.eq_ofNat_of_zero_le hx.1
  obtain ⟨n, rfl⟩ := Int.eq_ofNat_of_zero_le hy.1
  have e : bitop .or .i64 ((m : Int) * 256) (n : Int) = ((BitVec.ofInt 64 ((m * 256 : Nat) : Int) ||| BitVec.ofInt 64 (n : Int)).toNat : Int) := by
    rw [show ((m * 256 : Nat) : Int) = (m : Int) * 256 by omega]
    rfl
  rw [e, BitVec.ofInt_natCast, BitVec.ofInt_natCast, BitVec.toNat_or, BitVec.toNat_ofNat, BitVec.toNat_ofNat, Nat.mod_eq_of_lt (by omega), Nat.mod_eq_of_lt (by omega)]
  have o := Nat.two_pow_add_eq_or_of_lt (i := 8) (b := n) (by omega) m
  rw [show m * 256 = 2 ^ 8 * m by omega, ← o, wi (by omega) (by omega)]
  omega
def parseR (b : List Int) : (Int × Int × Int × List Int) × Int :=
  if b.length < 5 then ((0, 0, 0, []), 14) else if b.length > 21 then ((0, 0, 0, []), 2) else
    if sumOf (b.take (b.length - 2)) = 256 * b.getD (b.length - 2) 0 + b.getD (b.length - 1) 0 then ((b.getD 0 0 / 16, b.getD 0 0 % 16, 256 * b.getD 1 0 + b.getD 2 0, (b.take (b.length - 2)).drop 3), 0) else ((0, 0, 0, []), 13)
theorem getD_in {b : List Int} (hx : ∀ x, x ∈ b → 0 ≤ x ∧ x ≤ 255) (i : Nat) : 0 ≤ b.getD i 0 ∧ b.getD i 0 ≤ 255 := by
  by_cases h : i < b.length
  · rw [getD_nat _ b h]
    exact hx _ (List.getElem_mem h)
  · have : b.getD i 0 = 0 := by simp [List.getD, List.getElem?_eq_none (Nat.le_of_not_lt h)]
    omega
theorem bus_parse (b : List Int) (hx : ∀ x, x ∈ b → 0 ≤ x ∧ x ≤ 255) : bus_Parse b = some (parseR b) := by
  rw [bus_Parse_eq, parseR]
  simp only [dt]
  by_cases a : b.length < 5
  · rw [if_pos (by omega), if_pos a]
  · rw [if_neg (by omega), if_neg a]
    by_cases c : b.length > 21
    · rw [if_pos (by omega), if_pos c]
    · rw [if_neg (by omega), if_neg c]
      have e1 : IntKind.i64.wrap ((b.length : Int) - 2) = ((b.length - 2 : Nat) : Int) := by rw [wi (by omega) (by omega)]; omega
      have e2 : IntKind.i64.wrap (((b.length - 2 : Nat) : Int) + 1) = ((b.length - 1 : Nat) : Int) := by rw [wi (by omega) (by omega)]; omega
      have tl : (b.take (b.length - 2)).length = b.length - 2 := by rw [List.length_take]; omega
      have s := sumOf_in (b.take (b.length - 2))
      have g0 := getD_in hx 0
      have g1 := getD_in hx 1
      have g2 := getD_in hx 2
      have gx := getD_in hx (b.length - 2)
      have gy := getD_in hx (b.length - 1)
      rw [e1, e2, toNat_nat, toNat_nat, bus_sum _ (by omega) (fun x h => hx x (List.mem_of_mem_take h)), bind_some_, hi8 _ (by omega) (by omega), lo8, and15_eq _ g0.1 g0.2, or256 _ _ g1 g2, Int.fdiv_eq_ediv_of_nonneg _ (by omega), wi (x := b.getD 0 0 / 16) (by omega) (by omega)]
      have dl : ((b.take (b.length - 2)).drop 3).length ≤ 21 := by rw [List.length_drop]; omega
      simp only [ne_f, ne_t]
      generalize sumOf (b.take (b.length - 2)) = S at *
      generalize b.getD (b.length - 2) 0 = X at *
      generalize b.getD (b.length - 1) 0 = Y at *
      repeat' (refine ite_eq (fun _ => ?_) (fun _ => ?_))
      all_goals first | omega | (rw [if_pos (by omega)]) | (rw [if_neg (by omega)])
theorem ref_parse (b : List Int) (hx : ∀ x, x ∈ b → 0 ≤ x ∧ x ≤ 255) : spyref2_PacketOf b = some (parseR b) := by
  rw [spyref2_PacketOf_eq, parseR]
  simp only [dt]
  by_cases a : b.length < 5
  · rw [if_pos (by omega), if_pos a]
  · rw [if_neg (by omega), if_neg a]
    by_cases c : b.length > 21
    · rw [if_pos (by omega), if_pos c]
    · rw [if_neg (by omega), if_neg c]
      have e1 : IntKind.i64.wrap ((b.length : Int) - 2) = ((b.length - 2 : Nat) : Int) := by rw [wi (by omega) (by omega)]; omega
      have e2 : IntKind.i64.wrap ((b.length : Int) - 1) = ((b.length - 1 : Nat) : Int) := by rw [wi (by omega) (by omega)]; omega
      have tl : (b.take (b.length - 2)).length = b.length - 2 := by rw [List.length_take]; omega
      have s := sumOf_in (b.take (b.length - 2))
      have g0 := getD_in hx 0
      have g1 := getD_in hx 1
      have g2 := getD_in hx 2
      have gx := getD_in hx (b.length - 2)
      have gy := getD_in hx (b.length - 1)
      have w : ∀ x : Int, 0 ≤ x → x ≤ 255 → IntKind.i64.wrap x = x := fun x h0 h1 => wi (by omega) (by omega)
      have ad : ∀ x y : Int, 0 ≤ x ∧ x ≤ 255 → 0 ≤ y ∧ y ≤ 255 → IntKind.i64.wrap (IntKind.i64.wrap (256 * IntKind.i64.wrap x) + IntKind.i64.wrap y) = 256 * x + y := by
        intro x y h k
        rw [w x h.1 h.2, w y k.1 k.2, wi (x := 256 * x) (by omega) (by omega), wi (by omega) (by omega)]
      rw [e1, e2, toNat_nat, toNat_nat, ref_sum _ (by omega) (fun x h => hx x (List.mem_of_mem_take h)), bind_some_, ad _ _ gx gy, ad _ _ g1 g2, w _ g0.1 g0.2, Int.tdiv_eq_ediv_of_nonneg g0.1, Int.tmod_eq_emod_of_nonneg g0.1, wi (x := b.getD 0 0 / 16) (by omega) (by omega)]
      have dl : ((b.take (b.length - 2)).drop 3).length ≤ 21 := by rw [List.length_drop]; omega
      simp only [ne_f, ne_t]
      generalize sumOf (b.take (b.length - 2)) = S at *
      generalize b.getD (b.length - 2) 0 = X at *
      generalize b.getD (b.length - 1) 0 = Y at *
      repeat' (refine ite_eq (fun _ => ?_) (fun _ => ?_))
      all_goals first | omega | (rw [if_pos (by omega)]) | (rw [if_neg (by omega)])
theorem sum_le (b : List Int) : b.length ≤ (b.map (bulkT (.int .u8))).sum := by
  induction b with
  | nil => simp
  | cons x r ih =>
    rw [List.map_cons, List.sum_cons, List.length_cons, bulkT]
    omega
theorem BusParses : ∀ (x0 : List Int), goodT Try.prog (.list false 5 (.int .u8)) x0 → bulkT (.list false 5 (.int .u8)) x0 ≤ 1048576 → spylaw2_BusParses x0 = some true := by
  intro b hb hk
  obtain ⟨hl, hx⟩ := good_bytes hb
  rw [bulkT] at hk
  have := sum_le b
  have hn : b.length ≤ 1048576 := by
    have h2 : b.length ≤ (List.map (bulkT (.int .u8)) b).sum := this
    omega
  rw [spylaw2_BusParses_eq, buses, bind_some_, if_neg (by simp), bus_parse b hx, bind_some_, ref_parse b hx, bind_some_, if_pos (by simp), spyref2_SamePacket_eq, if_pos (by simp), if_pos (by simp), if_pos (by simp), bind_some_, if_pos (strs _), bus_stuff b hn, bind_some_, ref_stuff b hn, bind_some_, strs]

end Go.Proofs.Ytdcdbdlleojaaaa.Pure
