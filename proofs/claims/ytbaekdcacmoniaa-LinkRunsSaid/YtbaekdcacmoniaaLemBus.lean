/- Bytes of the line. -/
import Derived.Test.YtbaekdcacmoniaaEA0
import Derived.Test.YtbaekdcacmoniaaEA1
import Derived.Test.YtbaekdcacmoniaaEA2
import Derived.Test.YtbaekdcacmoniaaPl
namespace Go.Proofs.Ytbaekdcacmoniaa.Pure
set_option linter.unusedVariables false
set_option linter.unusedSimpArgs false
open Go Go.RowKit Go.Proofs.Ytbaekdcacmoniaa.Pv Go.Proofs.Ytbaekdcacmoniaa.Pl Go.Proofs.Ytbaekdcacmoniaa.EA

/-! Two computations with one answer. -/
def Same {α : Type} (p : α → Prop) (x y : Option α) : Prop := ∃ r, x = some r ∧ y = some r ∧ p r
theorem Same.mk {α : Type} {p : α → Prop} (a : α) (h : p a) : Same p (some a) (some a) := ⟨a, rfl, rfl, h⟩
theorem Same.ite {α : Type} {p : α → Prop} {c c' : Prop} [Decidable c] [Decidable c'] {a b a' b' : Option α} (h : c ↔ c') (h1 : c → Same p a a') (h2 : ¬ c → Same p b b') : Same p (if c then a else b) (if c' then a' else b') := by
  by_cases q : c
  · rw [if_pos q, if_pos (h.1 q)]; exact h1 q
  · rw [if_neg q, if_neg (fun k => q (h.2 k))]; exact h2 q
theorem Same.bind {α β : Type} {p : α → Prop} {q : β → Prop} {x y : Option β} {f g : β → Option α} (h : Same q x y) (k : ∀ r, q r → Same p (f r) (g r)) : Same p (x.bind f) (y.bind g) := by
  obtain ⟨r, h1, h2, h3⟩ := h
  rw [h1, h2]
  exact k r h3
theorem Same.of {α : Type} {p : α → Prop} {x y : Option α} (h1 : x = y) (h2 : ∃ r, y = some r ∧ p r) : Same p x y := by
  obtain ⟨r, h2, h3⟩ := h2
  exact ⟨r, h1.trans h2, h2, h3⟩
theorem Same.imp {α : Type} {p q : α → Prop} {x y : Option α} (h : Same p x y) (k : ∀ r, p r → q r) : Same q x y := by
  obtain ⟨r, h1, h2, h3⟩ := h
  exact ⟨r, h1, h2, k r h3⟩
/-- One more test on one side. -/
theorem Same.left {α : Type} {p : α → Prop} {c : Prop} [Decidable c] {a b y : Option α} (h1 : c → Same p a y) (h2 : ¬ c → Same p b y) : Same p (if c then a else b) y := by
  by_cases q : c
  · rw [if_pos q]; exact h1 q
  · rw [if_neg q]; exact h2 q
theorem Same.right {α : Type} {p : α → Prop} {c : Prop} [Decidable c] {a b x : Option α} (h1 : c → Same p x a) (h2 : ¬ c → Same p x b) : Same p x (if c then a else b) := by
  by_cases q : c
  · rw [if_pos q]; exact h1 q
  · rw [if_neg q]; exact h2 q
theorem Same.law {α : Type} {p : α → Prop} {x y : Option α} {f : α → α → Bool} (h : Same p x y) (hf : ∀ r, p r → f r r = true) : (x.bind fun a => y.bind fun b => some (f a b)) = some true := by
  obtain ⟨r, h1, h2, h3⟩ := h
  rw [h1, h2]
  show some (f r r) = some true
  rw [hf r h3]
/-! ### the checksum of bytes, both ways -/
def poly : BitVec 16 := 4129#16
def fstep (p : BitVec 16) : BitVec 16 := (p <<< 1) ^^^ (if p.msb = true then poly else 0#16)
def fsteps : Nat → BitVec 16 → BitVec 16
  | 0, p => p
  | d + 1, p => fsteps d (fstep p)
def rsteps (x : Nat) : Nat → BitVec 16 → BitVec 16
  | 0, r => r
  | d + 1, r => rsteps x d ((r <<< 1) ^^^ (if r.msb != x.testBit d then poly else 0#16))
theorem fstep_xor (r y : BitVec 16) : fstep (r ^^^ y) = ((r <<< 1) ^^^ (if r.msb != y.msb then poly else 0#16)) ^^^ (y <<< 1) := by
  unfold fstep
  rw [BitVec.shiftLeft_xor_distrib, BitVec.msb_xor]
  generalize r <<< 1 = a
  generalize y <<< 1 = b
  cases r.msb <;> cases y.msb <;> simp <;> ac_rfl
theorem steps_eq (x : Nat) : ∀ (d : Nat), d ≤ 8 → ∀ r : BitVec 16, fsteps d (r ^^^ (BitVec.ofNat 16 x <<< (16 - d))) = rsteps x d r
  | 0, _, r => by
    rw [fsteps, rsteps]
    simp
  | d + 1, hd, r => by
    rw [fsteps, rsteps, fstep_xor]
    have h1 : (BitVec.ofNat 16 x <<< (16 - (d + 1))).msb = x.testBit d := by
      rw [BitVec.msb_shiftLeft, BitVec.getMsbD_eq_getLsbD, BitVec.getLsbD_ofNat]
      have : 16 - 1 - (16 - (d + 1)) = d := by omega
      rw [this]
      have h2 : decide (16 - (d + 1) < 16) = true := by simp; omega
      have h3 : decide (d < 16) = true := by simp; omega
      rw [h2, h3]
      simp
    have h4 : (BitVec.ofNat 16 x <<< (16 - (d + 1))) <<< 1 = BitVec.ofNat 16 x <<< (16 - d) := by
      rw [← BitVec.shiftLeft_add]
      congr 1
      omega
    rw [h1, h4]
    exact steps_eq x d (by omega) _
theorem ofInt_toNat (p : BitVec 16) : BitVec.ofInt 16 (p.toNat : Int) = p := by
  rw [BitVec.ofInt_natCast]
  simp
theorem u16w (n : Nat) (h : n < 65536) : IntKind.u16.wrap (n : Int) = n := by
  rw [IntKind.wrap_u16]
  omega
theorem toNat_lt16 (p : BitVec 16) : p.toNat < 65536 := p.isLt
theorem wrap_dbl (p : BitVec 16) : IntKind.u16.wrap ((p.toNat : Int) * 2) = ((p <<< 1).toNat : Int) := by
  rw [IntKind.wrap_u16, BitVec.toNat_shiftLeft, Nat.shiftLeft_eq]
  omega
theorem xor16 (p q : BitVec 16) : IntKind.u16.wrap (bitop .xor .u16 (p.toNat : Int) (q.toNat : Int)) = ((p ^^^ q).toNat : Int) := by
  have : bitop .xor .u16 (p.toNat : Int) (q.toNat : Int) = ((BitVec.ofInt 16 (p.toNat : Int) ^^^ BitVec.ofInt 16 (q.toNat : Int)).toNat : Int) := rfl
  rw [this, ofInt_toNat, ofInt_toNat]
  exact u16w _ (toNat_lt16 _)
theorem and_top (p : BitVec 16) : ((IntKind.u16.wrap (bitop .and .u16 (p.toNat : Int) 32768)) != 0) = p.msb := by
  have e : bitop .and .u16 (p.toNat : Int) 32768 = ((BitVec.ofInt 16 (p.toNat : Int) &&& 32768#16).toNat : Int) := rfl
  rw [e, ofInt_toNat, u16w _ (toNat_lt16 _)]
  have h : (p &&& 32768#16) = if p.msb = true then 32768#16 else 0#16 := by
    apply BitVec.eq_of_getLsbD_eq
    intro i hi
    rw [BitVec.getLsbD_and]
    have hm : p.msb = p.getLsbD 15 := by rw [BitVec.msb_eq_getLsbD_last]
    rw [hm]
    by_cases h15 : i = 15
    · subst h15
      cases p.getLsbD 15 <;> decide
    · have : (32768#16 : BitVec 16).getLsbD i = false := by
        have : ∀ i : Fin 16, i.val ≠ 15 → (32768#16 : BitVec 16).getLsbD i.val = false := by decide
        exact this ⟨i, hi⟩ h15
      rw [this, Bool.and_false]
      split
      · exact this.symm
      · simp
  rw [h]
  cases p.msb <;> decide
theorem sum_bits (t6 : List Int) (t7 t8 : Int) : ∀ (d k : Nat) (p : BitVec 16), k + d = 8 → bus_Sum.p7 (p.toNat : Int) t6 t7 t8 (k : Int) = bus_Sum.p3 ((fsteps d p).toNat : Int) t6 t7 (IntKind.i64.wrap (t8 + 1))
  | 0, k, p, h => by
    rw [bus_Sum.p7_eq, if_neg (by rw [dt]; omega)]
    rfl
  | d + 1, k, p, h => by
    rw [bus_Sum.p7_eq, if_pos (by rw [dt]; omega), and_top, wrap_dbl, wi_nat (by omega), fsteps]
    have ih := sum_bits t6 t7 t8 d (k + 1) (fstep p) (by omega)
    rw [← ih]
    unfold fstep
    cases p.msb with
    | true =>
      rw [if_pos rfl, if_pos rfl, ← xor16]
      rfl
    | false =>
      rw [if_neg (by simp), if_neg (by simp), BitVec.xor_zero]
def crc (l : List Int) (p : BitVec 16) : BitVec 16 := l.foldl (fun p x => rsteps x.toNat 8 p) p
theorem sum_all (b : List Int) (hb : b.length < 9223372036854775807) (hx : ∀ x, x ∈ b → 0 ≤ x ∧ x ≤ 255) : ∀ (d i : Nat) (p : BitVec 16), i + d = b.length → bus_Sum.p3 (p.toNat : Int) b (b.length : Int) (i : Int) = some ((crc (b.drop i) p).toNat : Int)
  | 0, i, p, h => by
    rw [bus_Sum.p3_eq, if_neg (by rw [dt]; omega), List.drop_eq_nil_of_le (by omega)]
    rfl
  | d + 1, i, p, h => by
    have h1 : i < b.length := by omega
    rw [bus_Sum.p3_eq, if_pos (by rw [dt]; omega), if_pos (by omega), if_pos (by omega), getD_int _ b h1, List.drop_eq_getElem_cons h1]
    have hr := hx b[i] (List.getElem_mem h1)
    have e1 : IntKind.u16.wrap (IntKind.u16.wrap b[i] * 256) = ((BitVec.ofNat 16 b[i].toNat <<< 8).toNat : Int) := by
      rw [IntKind.wrap_u16, IntKind.wrap_u16, BitVec.toNat_shiftLeft, Nat.shiftLeft_eq, BitVec.toNat_ofNat]
      omega
    rw [e1, xor16]
    have := sum_bits b (b.length : Int) (i : Int) 8 0 (p ^^^ BitVec.ofNat 16 b[i].toNat <<< 8) rfl
    rw [show ((0 : Nat) : Int) = 0 from rfl] at this
    rw [this, wi_nat (by omega), steps_eq b[i].toNat 8 (by omega) p, sum_all b hb hx d (i + 1) _ (by omega)]
    rfl
theorem ref_top (r : BitVec 16) : IntKind.i64.wrap (Int.tdiv (r.toNat : Int) 32768) = if r.msb = true then 1 else 0 := by
  have h := toNat_lt16 r
  rw [Int.tdiv_eq_ediv_of_nonneg (by omega), wi (by omega) (by omega), BitVec.msb_eq_decide]
  simp only [decide_eq_true_eq]
  by_cases q : 2 ^ (16 - 1) ≤ r.toNat
  · rw [if_pos q]
    have : 32768 ≤ r.toNat := q
    omega
  · rw [if_neg q]
    have : ¬ 32768 ≤ r.toNat := q
    omega
theorem ref_bit (x : Int) (h0 : 0 ≤ x) (h1 : x ≤ 255) (d : Nat) (hd : d ≤ 7) : Int.tmod (Int.fdiv (IntKind.i64.wrap x) (2 ^ min (d : Int).toNat 64)) 2 = if x.toNat.testBit d = true then 1 else 0 := by
  rw [wi (by omega) (by omega), Int.toNat_natCast, Nat.min_eq_left (by omega)]
  obtain ⟨n, rfl⟩ := Int.eq_ofNat_of_zero_le h0
  rw [Int.toNat_natCast, Nat.testBit_eq_decide_div_mod_eq]
  have e : ((2 : Int) ^ d) = ((2 ^ d : Nat) : Int) := by simp
  rw [e, Int.fdiv_eq_ediv_of_nonneg _ (Int.natCast_nonneg _), Int.tmod_eq_emod_of_nonneg (Int.ediv_nonneg (Int.natCast_nonneg _) (Int.natCast_nonneg _))]
  simp only [decide_eq_true_eq]
  have h3 : ((n : Int) / ((2 ^ d : Nat) : Int)) % 2 = ((n / 2 ^ d % 2 : Nat) : Int) := by omega
  rw [h3]
  by_cases q : n / 2 ^ d % 2 = 1
  · rw [if_pos q, q]
    rfl
  · rw [if_neg q]
    omega
theorem xor64 (a : Nat) (h : a < 65536) : IntKind.i64.wrap (bitop .xor .i64 (a : Int) 4129) = ((a ^^^ 4129 : Nat) : Int) := by
  have e : bitop .xor .i64 (a : Int) 4129 = ((BitVec.ofInt 64 (a : Int) ^^^ 4129#64).toNat : Int) := rfl
  rw [e, BitVec.ofInt_natCast, BitVec.toNat_xor, BitVec.toNat_ofNat, BitVec.toNat_ofNat, Nat.mod_eq_of_lt (by omega), Nat.mod_eq_of_lt (by omega)]
  have : a ^^^ 4129 < 2 ^ 16 := Nat.xor_lt_two_pow (by omega) (by omega)
  exact wi (by omega) (by omega)
def sumOf (b : List Int) : Int := ((crc b 65535#16).toNat : Int)
theorem sumOf_in (b : List Int) : 0 ≤ sumOf b ∧ sumOf b < 65536 := by
  have := toNat_lt16 (crc b 65535#16)
  unfold sumOf
  omega
theorem bus_sum (b : List Int) (hb : b.length < 9223372036854775807) (hx : ∀ x, x ∈ b → 0 ≤ x ∧ x ≤ 255) : bus_Sum b = some (sumOf b) := by
  rw [bus_Sum_eq]
  exact sum_all b hb hx b.length 0 65535#16 (by omega)
/-! ### stuffing, faults and bodies, both ways -/
def stf (x : Int) : List Int := if x = 126 then [125, 94] else if x = 125 then [125, 93] else [x]
def stuffL : List Int → List Int
  | [] => [126]
  | x :: r => stf x ++ stuffL r
theorem xor126 : IntKind.u8.wrap (bitop .xor .u8 126 32) = 94 := by decide +kernel
theorem xor125 : IntKind.u8.wrap (bitop .xor .u8 125 32) = 93 := by decide +kernel
theorem bus_stuff_all (t : List Int) (ht : t.length < 9223372036854775807) : ∀ (d i : Nat) (acc : List Int), i + d = t.length → acc.length + 2 * d + 1 ≤ 140737488355328 → bus_Stuff.p3 t (t.length : Int) (i : Int) acc = some (acc ++ stuffL (t.drop i))
  | 0, i, acc, h, hl => by
    rw [bus_Stuff.p3_eq, if_neg (by rw [dt]; omega), List.drop_eq_nil_of_le (by omega), if_pos (by omega)]
    rfl
  | d + 1, i, acc, h, hl => by
    have h1 : i < t.length := by omega
    have step : ∀ y : List Int, y.length ≤ 2 → stf t[i] = y → bus_Stuff.p3 t (t.length : Int) ((i + 1 : Nat) : Int) (acc ++ y) = some (acc ++ stuffL (t.drop i)) := by
      intro y hy e
      rw [bus_stuff_all t ht d (i + 1) _ (by omega) (by rw [List.length_append]; omega), List.drop_eq_getElem_cons h1, stuffL, e, List.append_assoc]
    rw [bus_Stuff.p3_eq, if_pos (by rw [dt]; omega), if_pos (by omega), if_pos (by omega), getD_int _ t h1, wi_nat (by omega)]
    simp only [eq_f, eq_t]
    by_cases a : t[i] = 126
    · rw [if_neg (by omega), if_pos (by omega), a, xor126]
      exact step _ (by simp) (by rw [stf, if_pos a])
    · rw [if_pos a]
      by_cases b : t[i] = 125
      · rw [if_pos b, if_pos (by omega), b, xor125]
        exact step _ (by simp) (by rw [stf, if_neg a, if_pos b])
      · rw [if_neg b, if_pos (by omega)]
        exact step _ (by simp) (by rw [stf, if_neg a, if_neg b])
theorem bus_stuff (b : List Int) (h : b.length ≤ 1048576) : bus_Stuff b = some ([126] ++ stuffL b) := by
  rw [bus_Stuff_eq]
  exact bus_stuff_all b (by omega) b.length 0 _ (by omega) (by simp; omega)
/-- A packet's numbers stand inside their limits. -/
def pok (p : Int × Int × Int × List Int) : Prop := 0 ≤ p.1 ∧ p.1 ≤ 15 ∧ 0 ≤ p.2.1 ∧ p.2.1 ≤ 15 ∧ 0 ≤ p.2.2.1 ∧ p.2.2.1 ≤ 65535
instance (p : Int × Int × Int × List Int) : Decidable (pok p) := by unfold pok; infer_instance
def pfault (p : Int × Int × Int × List Int) : Int := if pok p then (if p.2.2.2.length ≤ 16 then 0 else 2) else 4
theorem pf4 {p : Int × Int × Int × List Int} (h : ¬ pok p) : some 4 = some (pfault p) := by rw [pfault, if_neg h]
theorem pf2 {p : Int × Int × Int × List Int} (h : pok p) (k : ¬ p.2.2.2.length ≤ 16) : some 2 = some (pfault p) := by rw [pfault, if_pos h, if_neg k]
theorem pf0 {p : Int × Int × Int × List Int} (h : pok p) (k : p.2.2.2.length ≤ 16) : some 0 = some (pfault p) := by rw [pfault, if_pos h, if_pos k]
theorem bus_check (p : Int × Int × Int × List Int) : bus_Check p = some (pfault p) := by
  simp only [bus_Check_eq, dt, df]
  repeat' (refine ite_eq (fun _ => ?_) (fun _ => ?_))
  all_goals first | exact pf4 (by unfold pok; omega) | exact pf2 (by unfold pok; omega) (by omega) | exact pf0 (by unfold pok; omega) (by omega)
def headL (p : Int × Int × Int × List Int) : List Int := [16 * p.1 + p.2.1, p.2.2.1 / 256, p.2.2.1 % 256] ++ p.2.2.2
def bodyL (p : Int × Int × Int × List Int) : List Int := headL p ++ [sumOf (headL p) / 256, sumOf (headL p) % 256]
theorem or16 : ∀ a b : Fin 16, IntKind.u8.wrap (IntKind.i64.wrap (bitop .or .i64 (IntKind.i64.wrap ((a.val : Int) * 16)) (b.val : Int))) = 16 * (a.val : Int) + (b.val : Int) := by decide +kernel
theorem or_eq (a b : Int) (ha : 0 ≤ a ∧ a ≤ 15) (hb : 0 ≤ b ∧ b ≤ 15) : IntKind.u8.wrap (IntKind.i64.wrap (bitop .or .i64 (IntKind.i64.wrap (a * 16)) b)) = 16 * a + b := by
  obtain ⟨m, rfl⟩ := Int.eq_ofNat_of_zero_le ha.1
  obtain ⟨n, rfl⟩ := Int.eq_ofNat_of_zero_le hb.1
  exact or16 ⟨m, by omega⟩ ⟨n, by omega⟩
theorem hi8 (x : Int) (h0 : 0 ≤ x) (h1 : x ≤ 65535) : IntKind.u8.wrap (Int.fdiv x 256) = x / 256 := by
  rw [Int.fdiv_eq_ediv_of_nonneg _ (by omega), IntKind.wrap_u8]
  omega
theorem lo8 (x : Int) : IntKind.u8.wrap x = x % 256 := IntKind.wrap_u8 x
theorem hi8' (x : Int) (h0 : 0 ≤ x) (h1 : x ≤ 65535) : IntKind.u8.wrap (IntKind.i64.wrap (Int.tdiv x 256)) = x / 256 := by
  rw [Int.tdiv_eq_ediv_of_nonneg (by omega), wi (by omega) (by omega), IntKind.wrap_u8]
  omega
theorem lo8' (x : Int) (h0 : 0 ≤ x) : IntKind.u8.wrap (Int.tmod x 256) = x % 256 := by
  rw [Int.tmod_eq_emod_of_nonneg h0, IntKind.wrap_u8]
  omega
theorem add8 (a b : Int) (ha : 0 ≤ a ∧ a ≤ 15) (hb : 0 ≤ b ∧ b ≤ 15) : IntKind.u8.wrap (IntKind.i64.wrap (IntKind.i64.wrap (16 * a) + b)) = 16 * a + b := by
  rw [wi (x := 16 * a) (by omega) (by omega), wi (by omega) (by omega), IntKind.wrap_u8]
  omega
theorem fault_0 {p : Int × Int × Int × List Int} (h : pfault p = 0) : pok p ∧ p.2.2.2.length ≤ 16 := by
  unfold pfault at h
  split at h
  · split at h
    · exact ⟨by assumption, by assumption⟩
    · omega
  · omega
theorem head_bytes {p : Int × Int × Int × List Int} (h : pok p) (hd : ∀ x, x ∈ p.2.2.2 → 0 ≤ x ∧ x ≤ 255) : ∀ x, x ∈ headL p → 0 ≤ x ∧ x ≤ 255 := by
  unfold pok at h
  intro x hx
  unfold headL at hx
  simp only [List.cons_append, List.nil_append, List.mem_cons] at hx
  rcases hx with rfl | rfl | rfl | hx
  · omega
  · omega
  · omega
  · exact hd x hx
theorem head_len (p : Int × Int × Int × List Int) : (headL p).length = 3 + p.2.2.2.length := by
  unfold headL
  simp only [List.length_append, List.length_cons, List.length_nil]
theorem body_len (p : Int × Int × Int × List Int) : (bodyL p).length = 5 + p.2.2.2.length := by
  unfold bodyL
  simp only [List.length_append, List.length_cons, List.length_nil, head_len]
  omega
theorem bus_body (p : Int × Int × Int × List Int) (hd : ∀ x, x ∈ p.2.2.2 → 0 ≤ x ∧ x ≤ 255) : bus_Body p = if pfault p = 0 then some (bodyL p, 0) else some ([], pfault p) := by
  rw [bus_Body_eq, bus_check, bind_some_]
  by_cases h : pfault p = 0
  · obtain ⟨k, l⟩ := fault_0 h
    have kb := head_bytes k hd
    have kl := head_len p
    have s := sumOf_in (headL p)
    unfold pok at k
    rw [if_pos h, if_neg (by rw [ne_t]; omega), if_pos (by omega), or_eq _ _ ⟨by omega, by omega⟩ ⟨by omega, by omega⟩, hi8 _ (by omega) (by omega), lo8]
    have e : [16 * p.1 + p.2.1, p.2.2.1 / 256, p.2.2.1 % 256] ++ p.2.2.2 = headL p := rfl
    rw [e, bus_sum _ (by omega) kb, bind_some_, if_pos (by omega), hi8 _ (by omega) (by omega), lo8]
    rfl
  · rw [if_neg h, if_pos (by rw [ne_t]; exact h)]
theorem good_packet {p : Int × Int × Int × List Int} (h : goodT Try.prog (.prod (.int .i64) (.prod (.int .i64) (.prod (.int .i64) (.list false 5 (.int .u8))))) p) : ∀ x, x ∈ p.2.2.2 → 0 ≤ x ∧ x ≤ 255 := by
  rw [goodT, goodT, goodT, goodT] at h
  intro x hx
  exact wf8 (h.2.2.2.2.2 x hx)
theorem good_bytes {b : List Int} (h : goodT Try.prog (.list false 5 (.int .u8)) b) : b.length < 9223372036854775807 ∧ ∀ x, x ∈ b → 0 ≤ x ∧ x ≤ 255 := by
  rw [goodT] at h
  have hb : Try.prog.bytesOf 5 = 1 := by kernel_rfl
  rw [hb] at h
  exact ⟨by omega, fun x hx => wf8 (h.2.2 x hx)⟩
theorem strs (a : List Int) : ((strOf a).toList == (strOf a).toList) = true := beq_self_eq_true _
theorem and15 : ∀ a : Fin 256, IntKind.i64.wrap (IntKind.u8.wrap (bitop .and .u8 (a.val : Int) 15)) = (a.val : Int) % 16 := by decide +kernel
theorem and15_eq (x : Int) (h0 : 0 ≤ x) (h1 : x ≤ 255) : IntKind.i64.wrap (IntKind.u8.wrap (bitop .and .u8 x 15)) = x % 16 := by
  obtain ⟨n, rfl⟩ := Int.eq_ofNat_of_zero_le h0
  exact and15 ⟨n, by omega⟩
theorem or256 (x y : Int) (hx : 0 ≤ x ∧ x ≤ 255) (hy : 0 ≤ y ∧ y ≤ 255) : IntKind.i64.wrap (bitop .or .i64 (IntKind.i64.wrap (IntKind.i64.wrap x * 256)) (IntKind.i64.wrap y)) = 256 * x + y := by
  rw [wi (x := x) (by omega) (by omega), wi (x := x * 256) (by omega) (by omega), wi (x := y) (by omega) (by omega)]
  obtain ⟨m, rfl⟩ := Int.eq_ofNat_of_zero_le hx.1
  obtain ⟨n, rfl⟩ := Int.eq_ofNat_of_zero_le hy.1
  have e : bitop .or .i64 ((m : Int) * 256) (n : Int) = ((BitVec.ofInt 64 ((m * 256 : Nat) : Int) ||| BitVec.ofInt 64 (n : Int)).toNat : Int) := by
    rw [show ((m * 256 : Nat) : Int) = (m : Int) * 256 by omega]
    rfl
  rw [e, BitVec.ofInt_natCast, BitVec.ofInt_natCast, BitVec.toNat_or, BitVec.toNat_ofNat, BitVec.toNat_ofNat, Nat.mod_eq_of_lt (by omega), Nat.mod_eq_of_lt (by omega)]
  have o := Nat.two_pow_add_eq_or_of_lt (i := 8) (b := n) (by omega) m
  rw [show m * 256 = 2 ^ 8 * m by omega, ← o, wi (by omega) (by omega)]
  omega
def parseR (b : List Int) : (Int × Int × Int × List Int) × Int :=
  if b.length < 5 then ((0, 0, 0, []), 14) else if b.length > 21 then ((0, 0, 0, []), 2) else
    if sumOf (b.take (b.length - 2)) = 256 * b.getD (b.length - 2) 0 + b.getD (b.length - 1) 0 then ((b.getD 0 0 / 16, b.getD 0 0 % 16, 256 * b.getD 1 0 + b.getD 2 0, (b.take (b.length - 2)).drop 3), 0) else ((0, 0, 0, []), 13)
theorem getD_in {b : List Int} (hx : ∀ x, x ∈ b → 0 ≤ x ∧ x ≤ 255) (i : Nat) : 0 ≤ b.getD i 0 ∧ b.getD i 0 ≤ 255 := by
  by_cases h : i < b.length
  · rw [getD_nat _ b h]
    exact hx _ (List.getElem_mem h)
  · have : b.getD i 0 = 0 := by simp [List.getD, List.getElem?_eq_none (Nat.le_of_not_lt h)]
    omega
theorem bus_parse (b : List Int) (hx : ∀ x, x ∈ b → 0 ≤ x ∧ x ≤ 255) : bus_Parse b = some (parseR b) := by
  rw [bus_Parse_eq, parseR]
  simp only [dt]
  by_cases a : b.length < 5
  · rw [if_pos (by omega), if_pos a]
  · rw [if_neg (by omega), if_neg a]
    by_cases c : b.length > 21
    · rw [if_pos (by omega), if_pos c]
    · rw [if_neg (by omega), if_neg c]
      have e1 : IntKind.i64.wrap ((b.length : Int) - 2) = ((b.length - 2 : Nat) : Int) := by rw [wi (by omega) (by omega)]; omega
      have e2 : IntKind.i64.wrap (((b.length - 2 : Nat) : Int) + 1) = ((b.length - 1 : Nat) : Int) := by rw [wi (by omega) (by omega)]; omega
      have tl : (b.take (b.length - 2)).length = b.length - 2 := by rw [List.length_take]; omega
      have s := sumOf_in (b.take (b.length - 2))
      have g0 := getD_in hx 0
      have g1 := getD_in hx 1
      have g2 := getD_in hx 2
      have gx := getD_in hx (b.length - 2)
      have gy := getD_in hx (b.length - 1)
      rw [e1, e2, toNat_nat, toNat_nat, bus_sum _ (by omega) (fun x h => hx x (List.mem_of_mem_take h)), bind_some_, hi8 _ (by omega) (by omega), lo8, and15_eq _ g0.1 g0.2, or256 _ _ g1 g2, Int.fdiv_eq_ediv_of_nonneg _ (by omega), wi (x := b.getD 0 0 / 16) (by omega) (by omega)]
      have dl : ((b.take (b.length - 2)).drop 3).length ≤ 21 := by rw [List.length_drop]; omega
      simp only [ne_f, ne_t]
      generalize sumOf (b.take (b.length - 2)) = S at *
      generalize b.getD (b.length - 2) 0 = X at *
      generalize b.getD (b.length - 1) 0 = Y at *
      repeat' (refine ite_eq (fun _ => ?_) (fun _ => ?_))
      all_goals first | omega | (rw [if_pos (by omega)]) | (rw [if_neg (by omega)])
theorem sum_le (b : List Int) : b.length ≤ (b.map (bulkT (.int .u8))).sum := by
  induction b with
  | nil => simp
  | cons x r ih =>
    rw [List.map_cons, List.sum_cons, List.length_cons, bulkT]
    omega
/-! Inverted bits. -/
def flip1 (acc : List Int) (i : Int) : List Int :=
  if 0 ≤ i ∧ i < 8 * (acc.length : Int) then acc.set (i / 8).toNat (IntKind.u8.wrap (bitop .xor .u8 (acc.getD (i / 8).toNat 0) ([1, 2, 4, 8, 16, 32, 64, 128].getD (i % 8).toNat 0))) else acc
theorem flip_len (acc : List Int) (i : Int) : (flip1 acc i).length = acc.length := by
  unfold flip1
  split
  · simp
  · rfl
theorem pow_eq (r : Int) (h0 : 0 ≤ r) (h1 : r < 8) : IntKind.u8.wrap (1 * 2 ^ min r.toNat 8) = [1, 2, 4, 8, 16, 32, 64, 128].getD r.toNat 0 := by
  have : r = 0 ∨ r = 1 ∨ r = 2 ∨ r = 3 ∨ r = 4 ∨ r = 5 ∨ r = 6 ∨ r = 7 := by omega
  rcases this with rfl | rfl | rfl | rfl | rfl | rfl | rfl | rfl <;> decide +kernel
theorem noise_all (t : List Int) (ht : t.length < 9223372036854775807) (hw : ∀ x, x ∈ t → x ≤ 9223372036854775807) : ∀ (d i : Nat) (acc : List Int), i + d = t.length → acc.length ≤ 1000 → bus_Noise.p5 t (t.length : Int) (i : Int) acc = some ([126] ++ stuffL ((t.drop i).foldl flip1 acc), 0)
  | 0, i, acc, h, hl => by
    rw [bus_Noise.p5_eq, if_neg (by rw [dt]; omega), List.drop_eq_nil_of_le (by omega), bus_stuff _ (by omega)]
    rfl
  | d + 1, i, acc, h, hl => by
    have h1 : i < t.length := by omega
    have step : ∀ y : List Int, flip1 acc t[i] = y → bus_Noise.p5 t (t.length : Int) ((i + 1 : Nat) : Int) y = some ([126] ++ stuffL ((t.drop i).foldl flip1 acc), 0) := by
      intro y e
      have := flip_len acc t[i]
      rw [noise_all t ht hw d (i + 1) _ (by omega) (by rw [← e]; omega), List.drop_eq_getElem_cons h1, List.foldl_cons, e]
    have hv := hw t[i] (List.getElem_mem h1)
    rw [bus_Noise.p5_eq, if_pos (by rw [dt]; omega), if_pos (by omega), if_pos (by omega), getD_int _ t h1, wi_nat (by omega), wi (x := 8 * (acc.length : Int)) (by omega) (by omega)]
    simp only [dt]
    by_cases a : 0 ≤ t[i]
    · rw [if_pos a]
      by_cases b : t[i] < 8 * (acc.length : Int)
      · rw [if_pos b, Int.tdiv_eq_ediv_of_nonneg a, Int.tmod_eq_emod_of_nonneg a, wi (x := t[i] / 8) (by omega) (by omega), if_pos (by omega), if_pos (by omega), if_neg (by omega), if_pos (by omega), if_pos (by omega), pow_eq _ (by omega) (by omega)]
        exact step _ (by rw [flip1, if_pos ⟨a, b⟩])
      · rw [if_neg b]
        exact step _ (by rw [flip1, if_neg (by omega)])
    · rw [if_neg a]
      exact step _ (by rw [flip1, if_neg (by omega)])

end Go.Proofs.Ytbaekdcacmoniaa.Pure
