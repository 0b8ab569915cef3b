/- Sums and packets. -/
import Derived.Test.YtmbjpenjcfkaoaaEC0
import Derived.Test.YtmbjpenjcfkaoaaPl
namespace Go.Proofs.Ytmbjpenjcfkaoaa.Pure
set_option linter.unusedVariables false
set_option linter.unusedSimpArgs false
open Go Go.RowKit Go.Proofs.Ytmbjpenjcfkaoaa.Pv Go.Proofs.Ytmbjpenjcfkaoaa.Pl Go.Proofs.Ytmbjpenjcfkaoaa.EC

/-! ### the checksum of bytes, both ways -/
def poly : BitVec 16 := 4129#16
def fstep (p : BitVec 16) : BitVec 16 := (p <<< 1) ^^^ (if p.msb = true then poly else 0#16)
def fsteps : Nat → BitVec 16 → BitVec 16
  | 0, p => p
  | d + 1, p => fsteps d (fstep p)
def rsteps (x : Nat) : Nat → BitVec 16 → BitVec 16
  | 0, r => r
  | d + 1, r => rsteps x d ((r <<< 1) ^^^ (if r.msb != x.testBit d then poly else 0#16))
theorem fstep_xor (r y : BitVec 16) : fstep (r ^^^ y) = ((r <<< 1) ^^^ (if r.msb != y.msb then poly else 0#16)) ^^^ (y <<< 1) := by
  unfold fstep
  rw [BitVec.shiftLeft_xor_distrib, BitVec.msb_xor]
  generalize r <<< 1 = a
  generalize y <<< 1 = b
  cases r.msb <;> cases y.msb <;> simp <;> ac_rfl
theorem steps_eq (x : Nat) : ∀ (d : Nat), d ≤ 8 → ∀ r : BitVec 16, fsteps d (r ^^^ (BitVec.ofNat 16 x <<< (16 - d))) = rsteps x d r
  | 0, _, r => by
    rw [fsteps, rsteps]
    simp
  | d + 1, hd, r => by
    rw [fsteps, rsteps, fstep_xor]
    have h1 : (BitVec.ofNat 16 x <<< (16 - (d + 1))).msb = x.testBit d := by
      rw [BitVec.msb_shiftLeft, BitVec.getMsbD_eq_getLsbD, BitVec.getLsbD_ofNat]
      have : 16 - 1 - (16 - (d + 1)) = d := by omega
      rw [this]
      have h2 : decide (16 - (d + 1) < 16) = true := by simp; omega
      have h3 : decide (d < 16) = true := by simp; omega
      rw [h2, h3]
      simp
    have h4 : (BitVec.ofNat 16 x <<< (16 - (d + 1))) <<< 1 = BitVec.ofNat 16 x <<< (16 - d) := by
      rw [← BitVec.shiftLeft_add]
      congr 1
      omega
    rw [h1, h4]
    exact steps_eq x d (by omega) _
theorem ofInt_toNat (p : BitVec 16) : BitVec.ofInt 16 (p.toNat : Int) = p := by
  rw [BitVec.ofInt_natCast]
  simp
theorem u16w (n : Nat) (h : n < 65536) : IntKind.u16.wrap (n : Int) = n := by
  rw [IntKind.wrap_u16]
  omega
theorem toNat_lt16 (p : BitVec 16) : p.toNat < 65536 := p.isLt
theorem wrap_dbl (p : BitVec 16) : IntKind.u16.wrap ((p.toNat : Int) * 2) = ((p <<< 1).toNat : Int) := by
  rw [IntKind.wrap_u16, BitVec.toNat_shiftLeft, Nat.shiftLeft_eq]
  omega
theorem xor16 (p q : BitVec 16) : IntKind.u16.wrap (bitop .xor .u16 (p.toNat : Int) (q.toNat : Int)) = ((p ^^^ q).toNat : Int) := by
  have : bitop .xor .u16 (p.toNat : Int) (q.toNat : Int) = ((BitVec.ofInt 16 (p.toNat : Int) ^^^ BitVec.ofInt 16 (q.toNat : Int)).toNat : Int) := rfl
  rw [this, ofInt_toNat, ofInt_toNat]
  exact u16w _ (toNat_lt16 _)
theorem and_top (p : BitVec 16) : ((IntKind.u16.wrap (bitop .and .u16 (p.toNat : Int) 32768)) != 0) = p.msb := by
  have e : bitop .and .u16 (p.toNat : Int) 32768 = ((BitVec.ofInt 16 (p.toNat : Int) &&& 32768#16).toNat : Int) := rfl
  rw [e, ofInt_toNat, u16w _ (toNat_lt16 _)]
  have h : (p &&& 32768#16) = if p.msb = true then 32768#16 else 0#16 := by
    apply BitVec.eq_of_getLsbD_eq
    intro i hi
    rw [BitVec.getLsbD_and]
    have hm : p.msb = p.getLsbD 15 := by rw [BitVec.msb_eq_getLsbD_last]
    rw [hm]
    by_cases h15 : i = 15
    · subst h15
      cases p.getLsbD 15 <;> decide
    · have : (32768#16 : BitVec 16).getLsbD i = false := by
        have : ∀ i : Fin 16, i.val ≠ 15 → (32768#16 : BitVec 16).getLsbD i.val = false := by decide
        exact this ⟨i, hi⟩ h15
      rw [this, Bool.and_false]
      split
      · exact this.symm
      · simp
  rw [h]
  cases p.msb <;> decide
theorem sum_bits (t6 : List Int) (t7 t8 : Int) : ∀ (d k : Nat) (p : BitVec 16), k + d = 8 → bus_Sum.p7 (p.toNat : Int) t6 t7 t8 (k : Int) = bus_Sum.p3 ((fsteps d p).toNat : Int) t6 t7 (IntKind.i64.wrap (t8 + 1))
  | 0, k, p, h => by
    rw [bus_Sum.p7_eq, if_neg (by rw [dt]; omega)]
    rfl
  | d + 1, k, p, h => by
    rw [bus_Sum.p7_eq, if_pos (by rw [dt]; omega), and_top, wrap_dbl, wi_nat (by omega), fsteps]
    have ih := sum_bits t6 t7 t8 d (k + 1) (fstep p) (by omega)
    rw [← ih]
    unfold fstep
    cases p.msb with
    | true =>
      rw [if_pos rfl, if_pos rfl, ← xor16]
      rfl
    | false =>
      rw [if_neg (by simp), if_neg (by simp), BitVec.xor_zero]
def crc (l : List Int) (p : BitVec 16) : BitVec 16 := l.foldl (fun p x => rsteps x.toNat 8 p) p
theorem sum_all (b : List Int) (hb : b.length < 9223372036854775807) (hx : ∀ x, x ∈ b → 0 ≤ x ∧ x ≤ 255) : ∀ (d i : Nat) (p : BitVec 16), i + d = b.length → bus_Sum.p3 (p.toNat : Int) b (b.length : Int) (i : Int) = some ((crc (b.drop i) p).toNat : Int)
  | 0, i, p, h => by
    rw [bus_Sum.p3_eq, if_neg (by rw [dt]; omega), List.drop_eq_nil_of_le (by omega)]
    rfl
  | d + 1, i, p, h => by
    have h1 : i < b.length := by omega
    rw [bus_Sum.p3_eq, if_pos (by rw [dt]; omega), if_pos (by omega), if_pos (by omega), getD_int _ b h1, List.drop_eq_getElem_cons h1]
    have hr := hx b[i] (List.getElem_mem h1)
    have e1 : IntKind.u16.wrap (IntKind.u16.wrap b[i] * 256) = ((BitVec.ofNat 16 b[i].toNat <<< 8).toNat : Int) := by
      rw [IntKind.wrap_u16, IntKind.wrap_u16, BitVec.toNat_shiftLeft, Nat.shiftLeft_eq, BitVec.toNat_ofNat]
      omega
    rw [e1, xor16]
    have := sum_bits b (b.length : Int) (i : Int) 8 0 (p ^^^ BitVec.ofNat 16 b[i].toNat <<< 8) rfl
    rw [show ((0 : Nat) : Int) = 0 from rfl] at this
    rw [this, wi_nat (by omega), steps_eq b[i].toNat 8 (by omega) p, sum_all b hb hx d (i + 1) _ (by omega)]
    rfl
theorem ref_top (r : BitVec 16) : IntKind.i64.wrap (Int.tdiv (r.toNat : Int) 32768) = if r.msb = true then 1 else 0 := by
  have h := toNat_lt16 r
  rw [Int.tdiv_eq_ediv_of_nonneg (by omega), wi (by omega) (by omega), BitVec.msb_eq_decide]
  simp only [decide_eq_true_eq]
  by_cases q : 2 ^ (16 - 1) ≤ r.toNat
  · rw [if_pos q]
    have : 32768 ≤ r.toNat := q
    omega
  · rw [if_neg q]
    have : ¬ 32768 ≤ r.toNat := q
    omega
theorem ref_bit (x : Int) (h0 : 0 ≤ x) (h1 : x ≤ 255) (d : Nat) (hd : d ≤ 7) : Int.tmod (Int.fdiv (IntKind.i64.wrap x) (2 ^ min (d : Int).toNat 64)) 2 = if x.toNat.testBit d = true then 1 else 0 := by
  rw [wi (by omega) (by omega), Int.toNat_natCast, Nat.min_eq_left (by omega)]
  obtain ⟨n, rfl⟩ := Int.eq_ofNat_of_zero_le h0
  rw [Int.toNat_natCast, Nat.testBit_eq_decide_div_mod_eq]
  have e : ((2 : Int) ^ d) = ((2 ^ d : Nat) : Int) := by simp
  rw [e, Int.fdiv_eq_ediv_of_nonneg _ (Int.natCast_nonneg _), Int.tmod_eq_emod_of_nonneg (Int.ediv_nonneg (Int.natCast_nonneg _) (Int.natCast_nonneg _))]
  simp only [decide_eq_true_eq]
  have h3 : ((n : Int) / ((2 ^ d : Nat) : Int)) % 2 = ((n / 2 ^ d % 2 : Nat) : Int) := by omega
  rw [h3]
  by_cases q : n / 2 ^ d % 2 = 1
  · rw [if_pos q, q]
    rfl
  · rw [if_neg q]
    omega
theorem xor64 (a : Nat) (h : a < 65536) : IntKind.i64.wrap (bitop .xor .i64 (a : Int) 4129) = ((a ^^^ 4129 : Nat) : Int) := by
  have e : bitop .xor .i64 (a : Int) 4129 = ((BitVec.ofInt 64 (a : Int) ^^^ 4129#64).toNat : Int) := rfl
  rw [e, BitVec.ofInt_natCast, BitVec.toNat_xor, BitVec.toNat_ofNat, BitVec.toNat_ofNat, Nat.mod_eq_of_lt (by omega), Nat.mod_eq_of_lt (by omega)]
  have : a ^^^ 4129 < 2 ^ 16 := Nat.xor_lt_two_pow (by omega) (by omega)
  exact wi (by omega) (by omega)
theorem ref_bits (x : Int) (h0 : 0 ≤ x) (h1 : x ≤ 255) (t8 : List Int) (t9 t10 : Int) : ∀ (d : Nat) (r : BitVec 16), d ≤ 8 → spyref2_Sum.p6 (r.toNat : Int) x ((d : Int) - 1) t8 t9 t10 = spyref2_Sum.p3 ((rsteps x.toNat d r).toNat : Int) t8 t9 (IntKind.i64.wrap (t10 + 1))
  | 0, r, _ => by
    rw [spyref2_Sum.p6_eq, if_neg (by rw [dt]; omega)]
    rfl
  | d + 1, r, hd => by
    have hr := toNat_lt16 r
    rw [show (((d + 1 : Nat) : Int) - 1) = (d : Int) by omega, spyref2_Sum.p6_eq, if_pos (by rw [dt]; omega), if_neg (by omega), ref_top, ref_bit x h0 h1 d (by omega), wi (x := (d : Int) - 1) (by omega) (by omega), rsteps]
    have e2 : Int.tmod (IntKind.i64.wrap ((r.toNat : Int) * 2)) 65536 = ((r <<< 1).toNat : Int) := by
      rw [wi (by omega) (by omega), BitVec.toNat_shiftLeft, Nat.shiftLeft_eq, Int.tmod_eq_emod_of_nonneg (by omega)]
      omega
    have e3 : IntKind.i64.wrap (bitop .xor .i64 ((r <<< 1).toNat : Int) 4129) = (((r <<< 1) ^^^ poly).toNat : Int) := by
      rw [xor64 _ (toNat_lt16 _), BitVec.toNat_xor]
      rfl
    rw [e2, e3, ref_bits x h0 h1 t8 t9 t10 d _ (by omega), ref_bits x h0 h1 t8 t9 t10 d _ (by omega)]
    cases r.msb <;> cases x.toNat.testBit d <;> simp
theorem ref_all (b : List Int) (hb : b.length < 9223372036854775807) (hx : ∀ x, x ∈ b → 0 ≤ x ∧ x ≤ 255) : ∀ (d i : Nat) (p : BitVec 16), i + d = b.length → spyref2_Sum.p3 (p.toNat : Int) b (b.length : Int) (i : Int) = some ((crc (b.drop i) p).toNat : Int)
  | 0, i, p, h => by
    rw [spyref2_Sum.p3_eq, if_neg (by rw [dt]; omega), List.drop_eq_nil_of_le (by omega)]
    rfl
  | d + 1, i, p, h => by
    have h1 : i < b.length := by omega
    have hr := hx b[i] (List.getElem_mem h1)
    rw [spyref2_Sum.p3_eq, if_pos (by rw [dt]; omega), if_pos (by omega), if_pos (by omega), getD_int _ b h1, List.drop_eq_getElem_cons h1]
    have := ref_bits b[i] hr.1 hr.2 b (b.length : Int) (i : Int) 8 p (by omega)
    rw [show (((8 : Nat) : Int) - 1) = 7 from rfl] at this
    rw [this, wi_nat (by omega), ref_all b hb hx d (i + 1) _ (by omega)]
    rfl
def sumOf (b : List Int) : Int := ((crc b 65535#16).toNat : Int)
theorem sumOf_in (b : List Int) : 0 ≤ sumOf b ∧ sumOf b < 65536 := by
  have := toNat_lt16 (crc b 65535#16)
  unfold sumOf
  omega
theorem bus_sum (b : List Int) (hb : b.length < 9223372036854775807) (hx : ∀ x, x ∈ b → 0 ≤ x ∧ x ≤ 255) : bus_Sum b = some (sumOf b) := by
  rw [bus_Sum_eq]
  exact sum_all b hb hx b.length 0 65535#16 (by omega)
theorem ref_sum (b : List Int) (hb : b.length < 9223372036854775807) (hx : ∀ x, x ∈ b → 0 ≤ x ∧ x ≤ 255) : spyref2_Sum b = some (sumOf b) := by
  rw [spyref2_Sum_eq]
  exact ref_all b hb hx b.length 0 65535#16 (by omega)
theorem hi8 (x : Int) (h0 : 0 ≤ x) (h1 : x ≤ 65535) : IntKind.u8.wrap (Int.fdiv x 256) = x / 256 := by
  rw [Int.fdiv_eq_ediv_of_nonneg _ (by omega), IntKind.wrap_u8]
  omega
theorem lo8 (x : Int) : IntKind.u8.wrap x = x % 256 := IntKind.wrap_u8 x
theorem hi8' (x : Int) (h0 : 0 ≤ x) (h1 : x ≤ 65535) : IntKind.u8.wrap (IntKind.i64.wrap (Int.tdiv x 256)) = x / 256 := by
  rw [Int.tdiv_eq_ediv_of_nonneg (by omega), wi (by omega) (by omega), IntKind.wrap_u8]
  omega
theorem lo8' (x : Int) (h0 : 0 ≤ x) : IntKind.u8.wrap (Int.tmod x 256) = x % 256 := by
  rw [Int.tmod_eq_emod_of_nonneg h0, IntKind.wrap_u8]
  omega
theorem good_bytes {b : List Int} (h : goodT Try.prog (.list false 5 (.int .u8)) b) : b.length < 9223372036854775807 ∧ ∀ x, x ∈ b → 0 ≤ x ∧ x ≤ 255 := by
  rw [goodT] at h
  have hb : Try.prog.bytesOf 5 = 1 := by kernel_rfl
  rw [hb] at h
  exact ⟨by omega, fun x hx => wf8 (h.2.2 x hx)⟩
theorem strs (a : List Int) : ((strOf a).toList == (strOf a).toList) = true := beq_self_eq_true _
theorem and15 : ∀ a : Fin 256, IntKind.i64.wrap (IntKind.u8.wrap (bitop .and .u8 (a.val : Int) 15)) = (a.val : Int) % 16 := by decide +kernel
theorem and15_eq (x : Int) (h0 : 0 ≤ x) (h1 : x ≤ 255) : IntKind.i64.wrap (IntKind.u8.wrap (bitop .and .u8 x 15)) = x % 16 := by
  obtain ⟨n, rfl⟩ := Int.eq_ofNat_of_zero_le h0
  exact and15 ⟨n, by omega⟩
theorem or256 (x y : Int) (hx : 0 ≤ x ∧ x ≤ 255) (hy : 0 ≤ y ∧ y ≤ 255) : IntKind.i64.wrap (bitop .or .i64 (IntKind.i64.wrap (IntKind.i64.wrap x * 256)) (IntKind.i64.wrap y)) = 256 * x + y := by
  rw [wi (x := x) (by omega) (by omega), wi (x := x * 256) (by omega) (by omega), wi (x := y) (by omega) (by omega)]
  obtain ⟨m, rfl⟩ := Int.eq_ofNat_of_zero_le hx.1
  obtain ⟨n, rfl⟩ := Int.eq_ofNat_of_zero_le hy.1
  have e : bitop .or .i64 ((m : Int) * 256) (n : Int) = ((BitVec.ofInt 64 ((m * 256 : Nat) : Int) ||| BitVec.ofInt 64 (n : Int)).toNat : Int) := by
    rw [show ((m * 256 : Nat) : Int) = (m : Int) * 256 by omega]
    rfl
  rw [e, BitVec.ofInt_natCast, BitVec.ofInt_natCast, BitVec.toNat_or, BitVec.toNat_ofNat, BitVec.toNat_ofNat, Nat.mod_eq_of_lt (by omega), Nat.mod_eq_of_lt (by omega)]
  have o := Nat.two_pow_add_eq_or_of_lt (i := 8) (b := n) (by omega) m
  rw [show m * 256 = 2 ^ 8 * m by omega, ← o, wi (by omega) (by omega)]
  omega
def parseR (b : List Int) : (Int × Int × Int × List Int) × Int :=
  if b.length < 5 then ((0, 0, 0, []), 14) else if b.length > 21 then ((0, 0, 0, []), 2) else
    if sumOf (b.take (b.length - 2)) = 256 * b.getD (b.length - 2) 0 + b.getD (b.length - 1) 0 then ((b.getD 0 0 / 16, b.getD 0 0 % 16, 256 * b.getD 1 0 + b.getD 2 0, (b.take (b.length - 2)).drop 3), 0) else ((0, 0, 0, []), 13)
theorem getD_in {b : List Int} (hx : ∀ x, x ∈ b → 0 ≤ x ∧ x ≤ 255) (i : Nat) : 0 ≤ b.getD i 0 ∧ b.getD i 0 ≤ 255 := by
  by_cases h : i < b.length
  · rw [getD_nat _ b h]
    exact hx _ (List.getElem_mem h)
  · have : b.getD i 0 = 0 := by simp [List.getD, List.getElem?_eq_none (Nat.le_of_not_lt h)]
    omega
theorem bus_parse (b : List Int) (hx : ∀ x, x ∈ b → 0 ≤ x ∧ x ≤ 255) : bus_Parse b = some (parseR b) := by
  rw [bus_Parse_eq, parseR]
  simp only [dt]
  by_cases a : b.length < 5
  · rw [if_pos (by omega), if_pos a]
  · rw [if_neg (by omega), if_neg a]
    by_cases c : b.length > 21
    · rw [if_pos (by omega), if_pos c]
    · rw [if_neg (by omega), if_neg c]
      have e1 : IntKind.i64.wrap ((b.length : Int) - 2) = ((b.length - 2 : Nat) : Int) := by rw [wi (by omega) (by omega)]; omega
      have e2 : IntKind.i64.wrap (((b.length - 2 : Nat) : Int) + 1) = ((b.length - 1 : Nat) : Int) := by rw [wi (by omega) (by omega)]; omega
      have tl : (b.take (b.length - 2)).length = b.length - 2 := by rw [List.length_take]; omega
      have s := sumOf_in (b.take (b.length - 2))
      have g0 := getD_in hx 0
      have g1 := getD_in hx 1
      have g2 := getD_in hx 2
      have gx := getD_in hx (b.length - 2)
      have gy := getD_in hx (b.length - 1)
      rw [e1, e2, toNat_nat, toNat_nat, bus_sum _ (by omega) (fun x h => hx x (List.mem_of_mem_take h)), bind_some_, hi8 _ (by omega) (by omega), lo8, and15_eq _ g0.1 g0.2, or256 _ _ g1 g2, Int.fdiv_eq_ediv_of_nonneg _ (by omega), wi (x := b.getD 0 0 / 16) (by omega) (by omega)]
      have dl : ((b.take (b.length - 2)).drop 3).length ≤ 21 := by rw [List.length_drop]; omega
      simp only [ne_f, ne_t]
      generalize sumOf (b.take (b.length - 2)) = S at *
      generalize b.getD (b.length - 2) 0 = X at *
      generalize b.getD (b.length - 1) 0 = Y at *
      repeat' (refine ite_eq (fun _ => ?_) (fun _ => ?_))
      all_goals first | omega | (rw [if_pos (by omega)]) | (rw [if_neg (by omega)])
theorem ref_parse (b : List Int) (hx : ∀ x, x ∈ b → 0 ≤ x ∧ x ≤ 255) : spyref2_PacketOf b = some (parseR b) := by
  rw [spyref2_PacketOf_eq, parseR]
  simp only [dt]
  by_cases a : b.length < 5
  · rw [if_pos (by omega), if_pos a]
  · rw [if_neg (by omega), if_neg a]
    by_cases c : b.length > 21
    · rw [if_pos (by omega), if_pos c]
    · rw [if_neg (by omega), if_neg c]
      have e1 : IntKind.i64.wrap ((b.length : Int) - 2) = ((b.length - 2 : Nat) : Int) := by rw [wi (by omega) (by omega)]; omega
      have e2 : IntKind.i64.wrap ((b.length : Int) - 1) = ((b.length - 1 : Nat) : Int) := by rw [wi (by omega) (by omega)]; omega
      have tl : (b.take (b.length - 2)).length = b.length - 2 := by rw [List.length_take]; omega
      have s := sumOf_in (b.take (b.length - 2))
      have g0 := getD_in hx 0
      have g1 := getD_in hx 1
      have g2 := getD_in hx 2
      have gx := getD_in hx (b.length - 2)
      have gy := getD_in hx (b.length - 1)
      have w : ∀ x : Int, 0 ≤ x → x ≤ 255 → IntKind.i64.wrap x = x := fun x h0 h1 => wi (by omega) (by omega)
      have ad : ∀ x y : Int, 0 ≤ x ∧ x ≤ 255 → 0 ≤ y ∧ y ≤ 255 → IntKind.i64.wrap (IntKind.i64.wrap (256 * IntKind.i64.wrap x) + IntKind.i64.wrap y) = 256 * x + y := by
        intro x y h k
        rw [w x h.1 h.2, w y k.1 k.2, wi (x := 256 * x) (by omega) (by omega), wi (by omega) (by omega)]
      rw [e1, e2, toNat_nat, toNat_nat, ref_sum _ (by omega) (fun x h => hx x (List.mem_of_mem_take h)), bind_some_, ad _ _ gx gy, ad _ _ g1 g2, w _ g0.1 g0.2, Int.tdiv_eq_ediv_of_nonneg g0.1, Int.tmod_eq_emod_of_nonneg g0.1, wi (x := b.getD 0 0 / 16) (by omega) (by omega)]
      have dl : ((b.take (b.length - 2)).drop 3).length ≤ 21 := by rw [List.length_drop]; omega
      simp only [ne_f, ne_t]
      generalize sumOf (b.take (b.length - 2)) = S at *
      generalize b.getD (b.length - 2) 0 = X at *
      generalize b.getD (b.length - 1) 0 = Y at *
      repeat' (refine ite_eq (fun _ => ?_) (fun _ => ?_))
      all_goals first | omega | (rw [if_pos (by omega)]) | (rw [if_neg (by omega)])
theorem sum_le (b : List Int) : b.length ≤ (b.map (bulkT (.int .u8))).sum := by
  induction b with
  | nil => simp
  | cons x r ih =>
    rw [List.map_cons, List.sum_cons, List.length_cons, bulkT]
    omega

end Go.Proofs.Ytmbjpenjcfkaoaa.Pure
