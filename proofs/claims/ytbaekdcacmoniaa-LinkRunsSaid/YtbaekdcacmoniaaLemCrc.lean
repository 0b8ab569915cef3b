/- The checksum finds up to three inverted bits. -/
import Derived.Test.YtbaekdcacmoniaaEA0
import Derived.Test.YtbaekdcacmoniaaEA1
import Derived.Test.YtbaekdcacmoniaaEA2
import Derived.Test.YtbaekdcacmoniaaPl
import Derived.Test.YtbaekdcacmoniaaLemBus
namespace Go.Proofs.Ytbaekdcacmoniaa.Pure
set_option linter.unusedVariables false
set_option linter.unusedSimpArgs false
open Go Go.RowKit Go.Proofs.Ytbaekdcacmoniaa.Pv Go.Proofs.Ytbaekdcacmoniaa.Pl Go.Proofs.Ytbaekdcacmoniaa.EA

/-! The checksum finds up to three inverted bits. -/
theorem ite_xor (a b : Bool) : (if (a ^^ b) = true then poly else 0#16) = (if a = true then poly else 0#16) ^^^ (if b = true then poly else 0#16) := by
  cases a <;> cases b <;> decide
theorem bne_xor (a b : Bool) : (a != b) = (a ^^ b) := by cases a <;> cases b <;> rfl
theorem rsteps_xor (x y : Nat) : ∀ (d : Nat) (r s : BitVec 16), rsteps (x ^^^ y) d (r ^^^ s) = rsteps x d r ^^^ rsteps y d s
  | 0, _, _ => rfl
  | d + 1, r, s => by
    rw [rsteps, rsteps, rsteps, ← rsteps_xor x y d]
    congr 1
    rw [BitVec.shiftLeft_xor_distrib, BitVec.msb_xor, Nat.testBit_xor]
    simp only [bne_xor, ite_xor]
    ac_rfl
def xi (a b : Int) : Int := ((a.toNat ^^^ b.toNat : Nat) : Int)
theorem crc_xor : ∀ (a e : List Int) (p q : BitVec 16), a.length = e.length → crc (List.zipWith xi a e) (p ^^^ q) = crc a p ^^^ crc e q
  | [], [], _, _, _ => rfl
  | x :: a, y :: e, p, q, h => by
    rw [List.zipWith_cons_cons]
    show crc (List.zipWith xi a e) (rsteps (xi x y).toNat 8 (p ^^^ q)) = crc a (rsteps x.toNat 8 p) ^^^ crc e (rsteps y.toNat 8 q)
    rw [show (xi x y).toNat = x.toNat ^^^ y.toNat from rfl, rsteps_xor, crc_xor a e _ _ (by simpa using h)]
def tailV (h l : Int) : BitVec 16 := BitVec.ofNat 16 (2 ^ 8 * h.toNat + l.toNat)
theorem tail_xor (a b c d : Int) (hb : b.toNat < 256) (hd : d.toNat < 256) : tailV (xi a c) (xi b d) = tailV a b ^^^ tailV c d := by
  unfold tailV
  rw [← BitVec.ofNat_xor]
  congr 1
  apply Nat.eq_of_testBit_eq
  intro j
  have hx : b.toNat ^^^ d.toNat < 2 ^ 8 := Nat.xor_lt_two_pow hb hd
  show (2 ^ 8 * (a.toNat ^^^ c.toNat) + (b.toNat ^^^ d.toNat)).testBit j = _
  rw [Nat.testBit_xor, Nat.testBit_two_pow_mul_add _ hx, Nat.testBit_two_pow_mul_add _ (show b.toNat < 2 ^ 8 from hb), Nat.testBit_two_pow_mul_add _ (show d.toNat < 2 ^ 8 from hd)]
  split
  · rw [Nat.testBit_xor]
  · rw [Nat.testBit_xor]
/-- What the checksum says of a body, from p on: nothing is wrong where it is 0. -/
def chk (p : BitVec 16) (b : List Int) : BitVec 16 := crc (b.take (b.length - 2)) p ^^^ tailV (b.getD (b.length - 2) 0) (b.getD (b.length - 1) 0)
theorem zip_getD (a e : List Int) (h : a.length = e.length) (i : Nat) : (List.zipWith xi a e).getD i 0 = xi (a.getD i 0) (e.getD i 0) := by
  rw [List.getD_eq_getElem?_getD, List.getElem?_zipWith, List.getD_eq_getElem?_getD, List.getD_eq_getElem?_getD]
  by_cases hi : i < a.length
  · rw [List.getElem?_eq_getElem hi, List.getElem?_eq_getElem (by omega)]
    rfl
  · rw [List.getElem?_eq_none (by omega), List.getElem?_eq_none (by omega)]
    rfl
theorem chk_xor (a e : List Int) (p q : BitVec 16) (h : a.length = e.length) (ha : ∀ i, (a.getD i 0).toNat < 256) (he : ∀ i, (e.getD i 0).toNat < 256) : chk (p ^^^ q) (List.zipWith xi a e) = chk p a ^^^ chk q e := by
  unfold chk
  have hl : (List.zipWith xi a e).length = a.length := by rw [List.length_zipWith]; omega
  rw [hl, List.take_zipWith, crc_xor _ _ _ _ (by rw [List.length_take, List.length_take]; omega), zip_getD _ _ h, zip_getD _ _ h, tail_xor _ _ _ _ (ha _) (he _), ← h]
  ac_rfl
theorem flip_fin : ∀ (a : Fin 256) (j : Fin 8), IntKind.u8.wrap (bitop .xor .u8 (a.val : Int) ([1, 2, 4, 8, 16, 32, 64, 128].getD j.val 0)) = ((a.val ^^^ (([1, 2, 4, 8, 16, 32, 64, 128] : List Int).getD j.val 0).toNat : Nat) : Int) := by decide +kernel
theorem flip_byte {x : Int} (h0 : 0 ≤ x) (h1 : x ≤ 255) (r : Nat) (hr : r < 8) : IntKind.u8.wrap (bitop .xor .u8 x ([1, 2, 4, 8, 16, 32, 64, 128].getD r 0)) = xi x ([1, 2, 4, 8, 16, 32, 64, 128].getD r 0) := by
  have := flip_fin ⟨x.toNat, by omega⟩ ⟨r, hr⟩
  rw [show (((⟨x.toNat, by omega⟩ : Fin 256).val : Nat) : Int) = x from Int.toNat_of_nonneg h0] at this
  exact this
/-- One inverted bit of n bytes. -/
def unitL (n i : Nat) : List Int := (List.replicate n 0).set (i / 8) ([1, 2, 4, 8, 16, 32, 64, 128].getD (i % 8) 0)
theorem flip_zip (b : List Int) (hb : ∀ x, x ∈ b → 0 ≤ x ∧ x ≤ 255) (i : Nat) (hi : i < 8 * b.length) : flip1 b i = List.zipWith xi b (unitL b.length i) := by
  have h8 : i / 8 < b.length := by omega
  unfold flip1
  rw [if_pos ⟨by omega, by omega⟩, show ((i : Int) / 8).toNat = i / 8 by omega, show ((i : Int) % 8).toNat = i % 8 by omega]
  have hx := hb b[i / 8] (List.getElem_mem h8)
  rw [getD_nat _ _ h8, flip_byte hx.1 hx.2 _ (by omega)]
  apply List.ext_getElem
  · rw [List.length_set, List.length_zipWith, unitL, List.length_set, List.length_replicate]
    omega
  · intro j h1 h2
    rw [List.length_set] at h1
    rw [List.getElem_zipWith]
    unfold unitL
    rw [List.getElem_set, List.getElem_set]
    split
    · rename_i e
      subst e
      rfl
    · rw [List.getElem_replicate]
      have hy := hb b[j] (List.getElem_mem h1)
      show b[j] = ((b[j].toNat ^^^ 0 : Nat) : Int)
      rw [Nat.xor_zero]
      omega
theorem unit_len (n i : Nat) : (unitL n i).length = n := by rw [unitL, List.length_set, List.length_replicate]
theorem unit_byte (n i k : Nat) : ((unitL n i).getD k 0).toNat < 256 := by
  unfold unitL
  rw [List.getD_eq_getElem?_getD, List.getElem?_set]
  have h : ∀ r : Nat, r < 8 → (([1, 2, 4, 8, 16, 32, 64, 128] : List Int).getD r 0).toNat < 256 := by decide
  split
  · split
    · exact h _ (by omega)
    · decide
  · rw [List.getElem?_replicate]
    split <;> decide
def synd (n i : Nat) : BitVec 16 := chk 0#16 (unitL n i)
theorem byte_getD {b : List Int} (hb : ∀ x, x ∈ b → 0 ≤ x ∧ x ≤ 255) (i : Nat) : (b.getD i 0).toNat < 256 := by
  have := getD_in hb i
  omega
theorem chk_flip (b : List Int) (hb : ∀ x, x ∈ b → 0 ≤ x ∧ x ≤ 255) (p : BitVec 16) (i : Nat) (hi : i < 8 * b.length) : chk p (flip1 b i) = chk p b ^^^ synd b.length i := by
  rw [flip_zip b hb i hi]
  have := chk_xor b (unitL b.length i) p 0#16 (by rw [unit_len]) (byte_getD hb) (unit_byte _ _)
  rwa [BitVec.xor_zero] at this
theorem flip_bytes {b : List Int} (hb : ∀ x, x ∈ b → 0 ≤ x ∧ x ≤ 255) (i : Int) : ∀ x, x ∈ flip1 b i → 0 ≤ x ∧ x ≤ 255 := by
  intro x hx
  unfold flip1 at hx
  split at hx
  · rcases List.mem_or_eq_of_mem_set hx with q | q
    · exact hb x q
    · rw [q, IntKind.wrap_u8]
      omega
  · exact hb x hx
/-! Parity. -/
def par (x : BitVec 16) : Bool := x.getLsbD 0 ^^ x.getLsbD 1 ^^ x.getLsbD 2 ^^ x.getLsbD 3 ^^ x.getLsbD 4 ^^ x.getLsbD 5 ^^ x.getLsbD 6 ^^ x.getLsbD 7 ^^ x.getLsbD 8 ^^ x.getLsbD 9 ^^ x.getLsbD 10 ^^ x.getLsbD 11 ^^ x.getLsbD 12 ^^ x.getLsbD 13 ^^ x.getLsbD 14 ^^ x.getLsbD 15
theorem par_xor (x y : BitVec 16) : par (x ^^^ y) = (par x ^^ par y) := by
  unfold par
  simp only [BitVec.getLsbD_xor]
  haveI : Std.Commutative (α := Bool) xor := ⟨Bool.xor_comm⟩
  haveI : Std.Associative (α := Bool) xor := ⟨Bool.xor_assoc⟩
  ac_rfl
theorem synd_par5 : ∀ i : Fin 40, par (synd 5 i.val) = true := by decide +kernel
theorem synd_par16 : ∀ i : Fin 128, par (synd 16 i.val) = true := by decide +kernel
theorem synd_ne5 : ∀ i j : Fin 40, i ≠ j → synd 5 i.val ≠ synd 5 j.val := by decide +kernel
theorem synd_ne16 : ((List.range 128).map fun i => (synd 16 i).toNat).Nodup := by decide +kernel
theorem synd_inj {n : Nat} (hn : n = 5 ∨ n = 16) {i j : Nat} (hi : i < 8 * n) (hj : j < 8 * n) (h : i ≠ j) : synd n i ≠ synd n j := by
  rcases hn with rfl | rfl
  · exact synd_ne5 ⟨i, by omega⟩ ⟨j, by omega⟩ (fun e => h (congrArg Fin.val e))
  · intro e
    have := synd_ne16
    rw [List.Nodup, List.pairwise_map, List.pairwise_iff_getElem] at this
    rcases Nat.lt_or_gt_of_ne h with q | q
    · exact this i j (by simp; omega) (by simp; omega) q (by rw [List.getElem_range, List.getElem_range, e])
    · exact this j i (by simp; omega) (by simp; omega) q (by rw [List.getElem_range, List.getElem_range, e])
theorem synd_odd {n : Nat} (hn : n = 5 ∨ n = 16) {i : Nat} (hi : i < 8 * n) : par (synd n i) = true := by
  rcases hn with rfl | rfl
  · exact synd_par5 ⟨i, by omega⟩
  · exact synd_par16 ⟨i, by omega⟩
/-- The error that bits make. -/
def errV (n : Nat) : List Int → BitVec 16
  | [] => 0#16
  | i :: r => if i < 8 * (n : Int) then synd n i.toNat ^^^ errV n r else errV n r
theorem chk_flips : ∀ (l : List Int) (b : List Int), (∀ i, i ∈ l → 0 ≤ i) → (∀ x, x ∈ b → 0 ≤ x ∧ x ≤ 255) → ∀ p, chk p (l.foldl flip1 b) = chk p b ^^^ errV b.length l
  | [], b, _, _, p => by rw [List.foldl_nil, errV, BitVec.xor_zero]
  | i :: r, b, hl, hb, p => by
    have h0 := hl i List.mem_cons_self
    rw [List.foldl_cons, chk_flips r _ (fun j hj => hl j (List.mem_cons_of_mem _ hj)) (flip_bytes hb i) p, flip_len, errV]
    by_cases c : i < 8 * (b.length : Int)
    · rw [if_pos c]
      have e : (i.toNat : Int) = i := Int.toNat_of_nonneg h0
      have := chk_flip b hb p i.toNat (by omega)
      rw [e] at this
      rw [this, BitVec.xor_assoc]
    · rw [if_neg c]
      unfold flip1
      rw [if_neg (by omega)]
theorem flips_len : ∀ (l b : List Int), (l.foldl flip1 b).length = b.length
  | [], _ => rfl
  | i :: r, b => by rw [List.foldl_cons, flips_len r, flip_len]
theorem flips_bytes : ∀ (l b : List Int), (∀ x, x ∈ b → 0 ≤ x ∧ x ≤ 255) → ∀ x, x ∈ l.foldl flip1 b → 0 ≤ x ∧ x ≤ 255
  | [], _, h => h
  | i :: r, b, h => flips_bytes r _ (flip_bytes h i)
theorem xor_ne {x y : BitVec 16} (h : x ≠ y) : x ^^^ y ≠ 0#16 := fun e => h (by
  have := congrArg (· ^^^ y) e
  simp only [BitVec.xor_assoc, BitVec.xor_self, BitVec.xor_zero, BitVec.zero_xor] at this
  exact this)
theorem par_ne {x : BitVec 16} (h : par x = true) : x ≠ 0#16 := fun e => by rw [e] at h; exact absurd h (by decide)
/-- Up to three different bits, one of them within the body: the checksum says so. -/
theorem err_ne {n : Nat} (hn : n = 5 ∨ n = 16) (l : List Int) (h3 : l.length ≤ 3) (h0 : ∀ i, i ∈ l → 0 ≤ i) (hd : l.Nodup) (he : ∃ i, i ∈ l ∧ i < 8 * (n : Int)) : errV n l ≠ 0#16 := by
  have odd : ∀ i : Int, 0 ≤ i → i < 8 * (n : Int) → par (synd n i.toNat) = true := fun i a b => synd_odd hn (by omega)
  have ne : ∀ i j : Int, 0 ≤ i → i < 8 * (n : Int) → 0 ≤ j → j < 8 * (n : Int) → i ≠ j → synd n i.toNat ≠ synd n j.toNat := fun i j a b c d e => synd_inj hn (by omega) (by omega) (by omega)
  match l, h3, h0, hd, he with
  | [], _, _, _, he =>
    obtain ⟨i, hi, _⟩ := he
    cases hi
  | [i], _, h0, _, he =>
    have a := h0 i (by simp)
    have c : i < 8 * (n : Int) := by
      obtain ⟨j, hj, k⟩ := he
      rw [List.mem_singleton.1 hj] at k
      exact k
    rw [errV, if_pos c, errV, BitVec.xor_zero]
    exact par_ne (odd i a c)
  | [i, j], _, h0, hd, he =>
    have a := h0 i (by simp)
    have b := h0 j (by simp)
    have hij : i ≠ j := by simp at hd; exact hd
    rw [errV, errV, errV]
    by_cases c : i < 8 * (n : Int)
    · by_cases d : j < 8 * (n : Int)
      · rw [if_pos c, if_pos d, BitVec.xor_zero]
        exact xor_ne (ne i j a c b d hij)
      · rw [if_pos c, if_neg d, BitVec.xor_zero]
        exact par_ne (odd i a c)
    · by_cases d : j < 8 * (n : Int)
      · rw [if_neg c, if_pos d, BitVec.xor_zero]
        exact par_ne (odd j b d)
      · obtain ⟨k, hk, q⟩ := he
        simp at hk
        rcases hk with rfl | rfl
        · exact absurd q c
        · exact absurd q d
  | [i, j, k], _, h0, hd, he =>
    have a := h0 i (by simp)
    have b := h0 j (by simp)
    have z := h0 k (by simp)
    have hh : (i ≠ j ∧ i ≠ k) ∧ j ≠ k := by simp at hd; exact hd
    rw [errV, errV, errV, errV]
    by_cases c : i < 8 * (n : Int)
    · by_cases d : j < 8 * (n : Int)
      · by_cases e : k < 8 * (n : Int)
        · rw [if_pos c, if_pos d, if_pos e, BitVec.xor_zero]
          refine par_ne ?_
          rw [par_xor, par_xor, odd i a c, odd j b d, odd k z e]
          rfl
        · rw [if_pos c, if_pos d, if_neg e, BitVec.xor_zero]
          exact xor_ne (ne i j a c b d hh.1.1)
      · by_cases e : k < 8 * (n : Int)
        · rw [if_pos c, if_neg d, if_pos e, BitVec.xor_zero]
          exact xor_ne (ne i k a c z e hh.1.2)
        · rw [if_pos c, if_neg d, if_neg e, BitVec.xor_zero]
          exact par_ne (odd i a c)
    · by_cases d : j < 8 * (n : Int)
      · by_cases e : k < 8 * (n : Int)
        · rw [if_neg c, if_pos d, if_pos e, BitVec.xor_zero]
          exact xor_ne (ne j k b d z e hh.2)
        · rw [if_neg c, if_pos d, if_neg e, BitVec.xor_zero]
          exact par_ne (odd j b d)
      · by_cases e : k < 8 * (n : Int)
        · rw [if_neg c, if_neg d, if_pos e, BitVec.xor_zero]
          exact par_ne (odd k z e)
        · obtain ⟨x, hx, q⟩ := he
          simp at hx
          rcases hx with rfl | rfl | rfl
          · exact absurd q c
          · exact absurd q d
          · exact absurd q e
  | _ :: _ :: _ :: _ :: _, h3, _, _, _ => simp at h3

end Go.Proofs.Ytbaekdcacmoniaa.Pure
