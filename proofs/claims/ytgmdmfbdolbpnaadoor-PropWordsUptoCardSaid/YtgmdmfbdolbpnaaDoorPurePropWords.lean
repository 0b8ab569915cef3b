/- PropWords: the pure statement, proved. -/
import Derived.Test.YtgmdmfbdolbpnaaDoorEB0
import Derived.Test.YtgmdmfbdolbpnaaDoorPl
namespace Go.Proofs.YtgmdmfbdolbpnaaDoor.Pure
set_option linter.unusedVariables false
set_option linter.unusedSimpArgs false
open Go Go.RowKit Go.Proofs.YtgmdmfbdolbpnaaDoor.Pv Go.Proofs.YtgmdmfbdolbpnaaDoor.Pl Go.Proofs.YtgmdmfbdolbpnaaDoor.EB

theorem props_true : spylaw2_props = some true := callL_some.2 ⟨200, by kernel_rfl⟩
theorem ba_eq_t {a b : ByteArray} : (a.toList == b.toList) = true ↔ a = b := by
  constructor
  · intro h
    have h2 : (a == b) = true := by rw [beq_toListBytes]; exact h
    have h3 : (a.data == b.data) = true := h2
    exact ByteArray.ext (by simpa using h3)
  · rintro rfl
    simp
theorem ba_ext {a b : ByteArray} (h : a.data.toList = b.data.toList) : a = b := ByteArray.ext (Array.ext' h)
theorem toL_app (x y : ByteArray) : (x ++ y).data.toList = x.data.toList ++ y.data.toList := by simp [ByteArray.data_append]
theorem ba_len (x : ByteArray) : x.data.toList.length = x.size := Array.length_toList
/-! Words. -/
def nonE (l : List UInt8) : Bool := !l.isEmpty
/-- The words of a line, the beginning of the next one at hand. -/
def wordsL : List UInt8 → List UInt8 → List (List UInt8)
  | acc, [] => [acc].filter nonE
  | acc, x :: r => if x = 32 then [acc].filter nonE ++ wordsL [] r else wordsL (acc ++ [x]) r
theorem split_ne (c : UInt8) : ∀ l : List UInt8, ∃ y q, splitL c l = y :: q
  | [] => ⟨[], [], rfl⟩
  | x :: r => by
    obtain ⟨y, q, e⟩ := split_ne c r
    rw [splitL]
    by_cases h : x = c
    · rw [if_pos h]
      exact ⟨_, _, rfl⟩
    · rw [if_neg h, e]
      exact ⟨_, _, rfl⟩
theorem split_words : ∀ (l acc y : List UInt8) (q : List (List UInt8)), splitL 32 l = y :: q → ((acc ++ y) :: q).filter nonE = wordsL acc l
  | [], acc, y, q, h => by
    rw [splitL] at h
    cases h
    rw [List.append_nil, wordsL]
  | x :: r, acc, y, q, h => by
    obtain ⟨y', q', e⟩ := split_ne 32 r
    rw [splitL] at h
    rw [wordsL]
    by_cases hx : x = 32
    · rw [if_pos hx] at h ⊢
      cases h
      have := split_words r [] y' q' e
      rw [List.nil_append, ← e] at this
      rw [← this, List.append_nil, ← List.filter_append]
      rfl
    · rw [if_neg hx] at h ⊢
      rw [e] at h
      cases h
      have := split_words r (acc ++ [x]) y' _ e
      rw [List.append_assoc] at this
      exact this
theorem words_split (l : List UInt8) : (splitL 32 l).filter nonE = wordsL [] l := by
  obtain ⟨y, q, e⟩ := split_ne 32 l
  rw [e]
  exact split_words l [] y q e
theorem splitL_len (c : UInt8) : ∀ l : List UInt8, (splitL c l).length ≤ l.length + 1
  | [] => Nat.le_refl _
  | x :: r => by
    have ih := splitL_len c r
    obtain ⟨y, q, e⟩ := split_ne c r
    rw [splitL]
    rw [e] at ih
    split
    · rw [e]
      simp only [List.length_cons] at ih ⊢
      omega
    · rw [e]
      simp only [List.length_cons] at ih ⊢
      omega
abbrev mkB (l : List UInt8) : ByteArray := ⟨l.toArray⟩
theorem mk_empty (l : List UInt8) : (!((mkB l).toList == (ByteArray.mk #[]).toList)) = nonE l := by
  cases l with
  | nil => simp [nonE]
  | cons x r =>
    have : ¬ ((mkB (x :: r)).toList == (ByteArray.mk #[]).toList) = true := fun h => by
      have := ba_eq_t.1 h
      have := congrArg (fun b : ByteArray => b.data.toList) this
      simp at this
    rw [Bool.not_eq_true] at this
    rw [this]
    rfl
theorem words_p3 (ls : List (List UInt8)) (hl : ls.length ≤ 2000000) : ∀ (u k : Nat) (out : List ByteArray), ls.length - k = u → k ≤ ls.length → out.length ≤ k → prop_Words.p3 (ls.map mkB) ls.length k out = some (out ++ ((ls.drop k).filter nonE).map mkB) := by
  intro u
  induction u with
  | zero =>
    intro k out h hk _
    rw [prop_Words.p3_eq, if_neg (by rw [dt]; omega), List.drop_eq_nil_of_le (by omega)]
    simp
  | succ u ih =>
    intro k out h hk ho
    have hlt : k < ls.length := by omega
    have hlm : ((ls.map mkB).length : Int) = (ls.length : Int) := by rw [List.length_map]
    rw [prop_Words.p3_eq, if_pos (by rw [dt]; omega), if_pos (by omega), if_pos (by omega), toNat_nat, getD_nat _ _ (by rw [List.length_map]; exact hlt), List.getElem_map, mk_empty, wi_nat (by omega), List.drop_eq_getElem_cons hlt]
    by_cases hn : nonE ls[k] = true
    · rw [if_pos hn, if_pos (by omega), ih (k + 1) _ (by omega) (by omega) (by simp; omega), List.filter_cons_of_pos hn, List.map_cons, List.append_assoc]
      rfl
    · rw [if_neg hn, ih (k + 1) _ (by omega) (by omega) (by omega), List.filter_cons_of_neg hn]
theorem words_run (s : ByteArray) (hs : s.size ≤ 1048576) : prop_Words s = some ((wordsL [] s.data.toList).map mkB) := by
  have hl := splitL_len 32 s.data.toList
  rw [ba_len] at hl
  have e : splitB 32 s = (splitL 32 s.data.toList).map mkB := rfl
  have := words_p3 (splitL 32 s.data.toList) (by omega) _ 0 [] rfl (by omega) (by simp)
  rw [show ((0 : Nat) : Int) = 0 from rfl, List.drop_zero, List.nil_append, words_split] at this
  rw [prop_Words_eq, if_pos (by omega), e, List.length_map, this]
theorem byte_at {s : ByteArray} {k : Nat} (h : k < s.size) : (bytesOf s).getD k 0 = ((s.data.toList[k]'(by rw [ba_len]; exact h)).toNat : Int) := by
  rw [getD_nat _ _ (by rw [bytesOf, List.length_map, ba_len]; exact h)]
  simp [bytesOf]
theorem ext_one {s : ByteArray} {k : Nat} (h : k < s.size) : s.extract k (k + 1) = mkB [s.data.toList[k]'(by rw [ba_len]; exact h)] := by
  refine ba_ext ?_
  have hl : k < s.data.toList.length := by rw [ba_len]; exact h
  have e : (s.extract k (k + 1)).data.toList = (s.data.toList.drop k).take 1 := by
    rw [ByteArray.data_extract, Array.toList_extract, List.extract_eq_take_drop]
    congr 1
    omega
  rw [e, List.drop_eq_getElem_cons hl]
  rfl
theorem ref_words (s : ByteArray) (hs : s.size ≤ 1048576) : ∀ (u k : Nat) (word : List UInt8) (out : List ByteArray), s.size - k = u → k ≤ s.size → word.length ≤ k → out.length ≤ k → spyref2_Words.p4 s (mkB word) k out = some (out ++ (wordsL word (s.data.toList.drop k)).map mkB) := by
  have p8 : ∀ (k : Nat) (word : List UInt8) (out : List ByteArray), k ≤ s.size → out.length ≤ k → spyref2_Words.p8 s (mkB word) k out = spyref2_Words.p4 s (ByteArray.mk #[]) ((k + 1 : Nat) : Int) (out ++ ([word].filter nonE).map mkB) := by
    intro k word out hk ho
    rw [spyref2_Words.p8_eq, mk_empty, wi_nat (by omega)]
    by_cases hn : nonE word = true
    · rw [if_pos hn, if_pos (by omega), List.filter_cons_of_pos hn]
      rfl
    · rw [if_neg hn, List.filter_cons_of_neg hn]
      simp
  intro u
  induction u with
  | zero =>
    intro k word out h hk hw ho
    have hd : s.data.toList.drop k = [] := List.drop_eq_nil_of_le (by rw [ba_len]; omega)
    rw [spyref2_Words.p4_eq, if_pos (by rw [dt]; omega), if_neg (by rw [dt]; omega), p8 k word out hk ho, spyref2_Words.p4_eq, if_neg (by rw [dt]; omega), hd, wordsL]
  | succ u ih =>
    intro k word out h hk hw ho
    have hlt : k < s.size := by omega
    have hlt' : k < s.data.toList.length := by rw [ba_len]; exact hlt
    have hd := List.drop_eq_getElem_cons hlt'
    have ht : ((k + 1 : Nat) : Int).toNat = k + 1 := rfl
    rw [spyref2_Words.p4_eq, if_pos (by rw [dt]; omega), if_pos (by rw [dt]; omega), if_pos (by omega), if_pos (by omega), toNat_nat, byte_at hlt, wi_nat (by omega), hd, wordsL]
    by_cases hx : s.data.toList[k] = 32
    · have hx' : ¬ ((((s.data.toList[k]).toNat : Int) != 32) = true) := by rw [hx]; decide
      rw [if_neg hx', if_pos hx, p8 k word out hk ho]
      have := ih (k + 1) [] (out ++ ([word].filter nonE).map mkB) (by omega) (by omega) (by simp) (by
        have : (([word].filter nonE).map mkB).length ≤ 1 := by
          rw [List.length_map]
          exact List.length_filter_le _ _
        rw [List.length_append]
        omega)
      rw [show (ByteArray.mk #[]) = mkB [] from rfl, this, List.append_assoc, List.map_append]
    · have hx' : (((s.data.toList[k]).toNat : Int) != 32) = true := by
        rw [ne_t]
        intro q
        apply hx
        have : (s.data.toList[k]).toNat = (32 : UInt8).toNat := by
          have : (32 : UInt8).toNat = 32 := rfl
          omega
        exact UInt8.toNat_inj.1 this
      have hsz : (mkB word).size + (s.extract k (k + 1)).size < 9223372036854775807 := by
        rw [ext_one hlt]
        have e1 : (mkB word).size = word.length := by rw [← ba_len]
        have e2 : (mkB [s.data.toList[k]]).size = 1 := rfl
        omega
      have happ : mkB word ++ s.extract k (k + 1) = mkB (word ++ [s.data.toList[k]]) := by
        rw [ext_one hlt]
        exact ba_ext (by rw [toL_app])
      rw [if_pos hx', if_neg hx, if_pos (by omega), if_pos (by omega), if_pos (by omega), if_pos (by omega), ht, if_pos hsz, happ, ih (k + 1) _ out (by omega) (by omega) (by simp; omega) (by omega)]
theorem equal_self (l : List ByteArray) (hl : l.length < 9223372036854775807) : slices_Equal_string_string l l = some true := by
  have key : ∀ (u k : Nat), l.length - k = u → k ≤ l.length → slices_Equal_string_string.p4 l l l.length k = some true := by
    intro u
    induction u with
    | zero =>
      intro k h hk
      rw [slices_Equal_string_string.p4_eq, if_neg (by rw [dt]; omega)]
    | succ u ih =>
      intro k h hk
      rw [slices_Equal_string_string.p4_eq, if_pos (by rw [dt]; omega), if_pos (by omega), if_pos (by omega), if_pos (by omega), if_pos (by omega), if_neg (by simp), wi_nat (by omega), ih (k + 1) (by omega) (by omega)]
  rw [slices_Equal_string_string_eq, if_neg (by simp)]
  exact key _ 0 rfl (by omega)
/-! Numbers. -/
theorem byte_range (d : ByteArray) (k : Nat) : 0 ≤ (bytesOf d).getD k 0 ∧ (bytesOf d).getD k 0 ≤ 255 := by
  rw [List.getD_eq_getElem?_getD]
  cases h : (bytesOf d)[k]? with
  | none => simp
  | some x =>
    have hm := List.mem_of_getElem? h
    rw [bytesOf, List.mem_map] at hm
    obtain ⟨b, _, rfl⟩ := hm
    have := b.toNat_lt
    simp only [Option.getD_some]
    omega
theorem num_run (s d : ByteArray) (minus : Bool) (hm : minus = decide (d.size < s.size)) (hd : d.size ≤ 10) : ∀ (u k : Nat) (n : Int), d.size - k = u → k ≤ d.size → 0 ≤ n → n < 10 ^ k → ∃ r, prop_Number.p6 s d n k = some r ∧ spyref2_Number.p9 minus d n k = some r := by
  intro u
  induction u with
  | zero =>
    intro k n h hk _ _
    have a : ¬ decide ((k : Int) < (d.size : Int)) = true := by rw [dt]; omega
    rw [prop_Number.p6_eq, spyref2_Number.p9_eq]
    simp only [if_neg a]
    by_cases c : d.size < s.size
    · rw [if_pos (by rw [dt]; omega), if_pos (by rw [hm, dt]; exact c)]
      exact ⟨_, rfl, rfl⟩
    · rw [if_neg (by rw [dt]; omega), if_neg (by rw [hm, dt]; exact c)]
      exact ⟨_, rfl, rfl⟩
  | succ u ih =>
    intro k n h hk h0 h1
    have hlt : k < d.size := by omega
    have hc := byte_range d k
    have hpow : (10 : Int) ^ (k + 1) ≤ 10 ^ 10 := by
      have := Nat.pow_le_pow_right (show 0 < 10 by omega) (show k + 1 ≤ 10 by omega)
      exact_mod_cast this
    have e10 : (10 : Int) ^ 10 = 10000000000 := by decide +kernel
    have es : (10 : Int) ^ (k + 1) = 10 ^ k * 10 := Int.pow_succ ..
    rw [prop_Number.p6_eq, spyref2_Number.p9_eq]
    simp only [toNat_nat]
    generalize (bytesOf d).getD k 0 = c at hc
    have a : decide ((k : Int) < (d.size : Int)) = true := by rw [dt]; omega
    simp only [if_pos a, if_pos (show (0 : Int) ≤ k by omega), if_pos (show (k : Int) < d.size by omega)]
    by_cases c1 : c < 48
    · have n1 : ¬ decide (c < 48) = false := by rw [df]; omega
      simp only [if_neg n1]
      exact ⟨_, rfl, rfl⟩
    · have n1 : decide (c < 48) = false := by rw [df]; omega
      simp only [if_pos n1]
      by_cases c2 : c > 57
      · have n2 : decide (c > 57) = true := by rw [dt]; omega
        simp only [if_pos n2]
        exact ⟨_, rfl, rfl⟩
      · have n2 : ¬ decide (c > 57) = true := by rw [dt]; omega
        simp only [if_neg n2]
        have eu : IntKind.u8.wrap (c - 48) = c - 48 := by
          have : c = 48 ∨ c = 49 ∨ c = 50 ∨ c = 51 ∨ c = 52 ∨ c = 53 ∨ c = 54 ∨ c = 55 ∨ c = 56 ∨ c = 57 := by omega
          rcases this with rfl | rfl | rfl | rfl | rfl | rfl | rfl | rfl | rfl | rfl <;> decide +kernel
        rw [eu, wi (x := 10 * n) (by omega) (by omega), wi (x := c - 48) (by omega) (by omega), wi (x := 10 * n + (c - 48)) (by omega) (by omega), wi (x := n * 10) (by omega) (by omega), wi (x := c) (by omega) (by omega), wi (x := n * 10 + c) (by omega) (by omega), wi (x := n * 10 + c - 48) (by omega) (by omega), wi_nat (by omega)]
        have e : n * 10 + c - 48 = 10 * n + (c - 48) := by omega
        rw [e]
        exact ih (k + 1) _ (by omega) (by omega) (by omega) (by omega)
theorem ext_size (s : ByteArray) (k : Nat) (h : k ≤ s.size) : (s.extract k s.size).size = s.size - k := by
  rw [ByteArray.size_extract]
  omega
theorem trim_run (s : ByteArray) (hs : s.size ≤ 1048576) : strings_TrimPrefix s (ByteArray.mk #[45]) = some (if s.size > 0 ∧ (bytesOf s).getD 0 0 = 45 then s.extract 1 s.size else s) := by
  have z : (ByteArray.mk #[45]).size = 1 := rfl
  rw [strings_TrimPrefix_eq, bind_id, stringslite_TrimPrefix_eq, stringslite_HasPrefix_eq, z]
  by_cases h0 : 0 < s.size
  · have e0 := ext_one h0
    have eb := byte_at h0
    rw [Nat.zero_add] at e0
    rw [if_pos (by rw [dt]; omega), if_pos (by omega), if_pos (by omega), bind_some_, e0, eb]
    by_cases hc : s.data.toList[0]'(by rw [ba_len]; exact h0) = 45
    · rw [hc, if_pos (by simp), if_pos (by omega), if_pos (by omega), if_pos ⟨h0, by decide⟩]
    · have h1 : ¬ ((mkB [s.data.toList[0]'(by rw [ba_len]; exact h0)]).toList == (ByteArray.mk #[45]).toList) = true := fun q => hc (by
        have := congrArg (fun b : ByteArray => b.data.toList) (ba_eq_t.1 q)
        simpa using this)
      rw [if_neg h1, if_neg]
      rintro ⟨_, q⟩
      apply hc
      have : (s.data.toList[0]'(by rw [ba_len]; exact h0)).toNat = (45 : UInt8).toNat := by
        have : (45 : UInt8).toNat = 45 := rfl
        omega
      exact UInt8.toNat_inj.1 this
  · rw [if_neg (by rw [dt]; omega), bind_some_, if_neg (by simp), if_neg (fun q => h0 q.1)]
theorem zero_str {s : ByteArray} : s = ByteArray.mk #[48] ↔ s.size = 1 ∧ (bytesOf s).getD 0 0 = 48 := by
  constructor
  · rintro rfl
    exact ⟨rfl, by decide⟩
  · rintro ⟨h1, h2⟩
    refine ba_ext ?_
    have hl : s.data.toList.length = 1 := by rw [ba_len]; exact h1
    obtain ⟨x, hx⟩ := List.length_eq_one_iff.1 hl
    rw [bytesOf, hx] at h2
    rw [hx]
    have h3 : (x.toNat : Int) = 48 := h2
    have : x.toNat = (48 : UInt8).toNat := by
      have : (48 : UInt8).toNat = 48 := rfl
      omega
    rw [UInt8.toNat_inj.1 this]
theorem number_same (s : ByteArray) (hs : s.size ≤ 1048576) : ∃ r, prop_Number s = some r ∧ spyref2_Number s = some r := by
  have tail : ∀ (d : ByteArray) (minus : Bool), minus = decide (d.size < s.size) → (minus = false → d = s) → (minus = true → (bytesOf s).getD 0 0 = 45) →
      ∃ r, (if ((d.size : Int) == 0) = false then (if (decide ((d.size : Int) > 10)) = false then (if 0 < (d.size : Int) then (if (((bytesOf d).getD 0 0) == 48) = true then (if (!(s.toList == (ByteArray.mk #[48]).toList)) = true then (some (0, false)) else (prop_Number.p6 s d 0 0)) else (prop_Number.p6 s d 0 0)) else (none)) else (some (0, false))) else (some (0, false))) = some r ∧ spyref2_Number.p5 minus d = some r := by
    intro d minus hm hf ht
    rw [spyref2_Number.p5_eq]
    by_cases h0 : d.size = 0
    · rw [if_neg (by rw [eq_f]; omega), if_neg (by rw [df]; omega)]
      exact ⟨_, rfl, rfl⟩
    · rw [if_pos (by rw [eq_f]; omega), if_pos (show decide ((d.size : Int) < 1) = false by rw [df]; omega)]
      by_cases h1 : d.size > 10
      · rw [if_neg (by rw [df]; omega), if_neg (by rw [df]; omega)]
        exact ⟨_, rfl, rfl⟩
      · have g1 : decide ((d.size : Int) > 10) = false := by rw [df]; omega
        have g2 : 0 < (d.size : Int) := by omega
        rw [if_pos g1, if_pos g1, if_pos g2, if_pos g2]
        have run := num_run s d minus hm (by omega) _ 0 0 rfl (by omega) (by omega) (by decide)
        rw [show ((0 : Nat) : Int) = 0 from rfl] at run
        by_cases hz : (bytesOf d).getD 0 0 = 48
        · have hz' : ((bytesOf d).getD 0 0 == 48) = true := by rw [eq_t]; exact hz
          rw [if_pos hz', if_pos hz']
          by_cases hzero : s = ByteArray.mk #[48]
          · have z2 := zero_str.1 hzero
            have hmin : minus = false := by
              cases hq : minus with
              | false => rfl
              | true =>
                have := ht hq
                omega
            have hds := hf hmin
            rw [if_neg (by rw [ba_eq_t.2 hzero]; simp), if_pos (by rw [df, hds]; omega), if_neg (by rw [hmin]; simp)]
            exact run
          · have hn : (!(s.toList == (ByteArray.mk #[48]).toList)) = true := by
              rw [not_t, Bool.eq_false_iff]
              exact fun q => hzero (ba_eq_t.1 q)
            rw [if_pos hn]
            by_cases h2 : d.size > 1
            · rw [if_neg (by rw [df]; omega)]
              exact ⟨_, rfl, rfl⟩
            · rw [if_pos (by rw [df]; omega)]
              cases hq : minus with
              | true =>
                rw [if_pos rfl]
                exact ⟨_, rfl, rfl⟩
              | false =>
                exfalso
                have hds := hf hq
                exact hzero (zero_str.2 ⟨by rw [← hds]; omega, by rw [← hds]; exact hz⟩)
        · have hz' : ¬ ((bytesOf d).getD 0 0 == 48) = true := by rw [eq_t]; exact hz
          rw [if_neg hz', if_neg hz']
          exact run
  rw [prop_Number_eq, trim_run s hs, bind_some_]
  by_cases h : s.size > 0 ∧ (bytesOf s).getD 0 0 = 45
  · have hsz := ext_size s 1 (by omega)
    have e : ((bytesOf s).getD 0 0 == 45) = true := by rw [eq_t]; exact h.2
    have er : spyref2_Number s = spyref2_Number.p5 true (s.extract 1 s.size) := by
      rw [spyref2_Number_eq, if_pos (by rw [dt]; omega), if_pos (by omega), spyref2_Number.p2_eq, e, if_pos rfl, if_pos (by omega)]
    rw [if_pos h, er]
    exact tail _ true (by symm; rw [dt]; omega) (fun q => by cases q) (fun _ => h.2)
  · have e2 : ∀ m, m = false → spyref2_Number.p2 s m = spyref2_Number.p5 false s := fun m hm => by rw [hm, spyref2_Number.p2_eq, if_neg (by simp)]
    have er : spyref2_Number s = spyref2_Number.p5 false s := by
      rw [spyref2_Number_eq]
      by_cases h0 : s.size > 0
      · have e : ((bytesOf s).getD 0 0 == 45) = false := by rw [eq_f]; exact fun q => h ⟨h0, q⟩
        rw [if_pos (by rw [dt]; omega), if_pos (by omega), e2 _ e]
      · rw [if_neg (by rw [dt]; omega), e2 _ rfl]
    rw [if_neg h, er]
    exact tail s false (by symm; rw [df]; omega) (fun _ => rfl) (fun q => by cases q)
theorem PropWords : ∀ (x0 : ByteArray), goodT Tryd.prog .str x0 → bulkT .str x0 ≤ 1048576 → spylaw2_PropWords x0 = some true := by
  intro s _ hb
  have hs : s.size ≤ 1048576 := by
    have : s.size + 1 ≤ 1048576 := hb
    omega
  obtain ⟨r, h1, h2⟩ := number_same s hs
  have hw := words_run s hs
  have hr := ref_words s hs _ 0 [] [] rfl (by omega) (by simp) (by simp)
  rw [show ((0 : Nat) : Int) = 0 from rfl, List.drop_zero, List.nil_append, show mkB [] = ByteArray.mk #[] from rfl, ← spyref2_Words_eq] at hr
  have hlen : ((wordsL [] s.data.toList).map mkB).length < 9223372036854775807 := by
    rw [List.length_map, ← words_split]
    have h3 := List.length_filter_le nonE (splitL 32 s.data.toList)
    have h4 := splitL_len 32 s.data.toList
    rw [ba_len] at h4
    omega
  rw [spylaw2_PropWords_eq, props_true, bind_some_, if_neg (by simp), h1, bind_some_, h2, bind_some_, if_pos (by simp), if_pos (by simp), hw, bind_some_, hr, bind_some_, equal_self _ hlen]
  rfl

end Go.Proofs.YtgmdmfbdolbpnaaDoor.Pure
