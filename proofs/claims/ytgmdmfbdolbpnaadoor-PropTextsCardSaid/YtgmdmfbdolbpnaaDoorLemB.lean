/- Bytes, digits, words. -/
import Derived.Test.YtgmdmfbdolbpnaaDoorEA0
import Derived.Test.YtgmdmfbdolbpnaaDoorEA1
import Derived.Test.YtgmdmfbdolbpnaaDoorPl
import Derived.Test.YtgmdmfbdolbpnaaDoorLemA
namespace Go.Proofs.YtgmdmfbdolbpnaaDoor.Pure
set_option linter.unusedVariables false
set_option linter.unusedSimpArgs false
open Go Go.RowKit Go.Proofs.YtgmdmfbdolbpnaaDoor.Pv Go.Proofs.YtgmdmfbdolbpnaaDoor.Pl Go.Proofs.YtgmdmfbdolbpnaaDoor.EA

/-! Bytes of strings; decimal digits. -/
theorem ba_ext {a b : ByteArray} (h : a.data.toList = b.data.toList) : a = b := ByteArray.ext (Array.ext' h)
theorem toL_app (x y : ByteArray) : (x ++ y).data.toList = x.data.toList ++ y.data.toList := by simp [ByteArray.data_append]
theorem ba_len (x : ByteArray) : x.data.toList.length = x.size := Array.length_toList
theorem ba_size (x y : ByteArray) : (x ++ y).size = x.size + y.size := by rw [← ba_len, ← ba_len, ← ba_len, toL_app, List.length_append]
theorem ba_assoc (x y z : ByteArray) : x ++ y ++ z = x ++ (y ++ z) := ba_ext (by rw [toL_app, toL_app, toL_app, toL_app, List.append_assoc])
theorem ba_nil (x : ByteArray) : x ++ ByteArray.empty = x := ba_ext (by rw [toL_app]; simp)
theorem nil_ba (x : ByteArray) : ByteArray.mk #[] ++ x = x := ba_ext (by rw [toL_app]; simp)
theorem strOf_bytesOf (s : ByteArray) : strOf (bytesOf s) = s := by
  refine ba_ext ?_
  unfold strOf
  rw [strOfNums_data, bytesOf, List.map_map]
  have : ((fun n : Int => UInt8.ofNat n.toNat) ∘ fun b : UInt8 => (b.toNat : Int)) = id := by
    funext b
    simp
  rw [this, List.map_id]
theorem bytesOf_app (s t : ByteArray) : bytesOf (s ++ t) = bytesOf s ++ bytesOf t := by rw [bytesOf, toL_app, List.map_append]; rfl
theorem bytesOf_len (s : ByteArray) : (bytesOf s).length = s.size := by rw [bytesOf, List.length_map, ba_len]
theorem bytesOf_in (s : ByteArray) : (bytesOf s).all inByte = true := by
  rw [List.all_eq_true]
  intro x hx
  rw [bytesOf, List.mem_map] at hx
  obtain ⟨b, _, rfl⟩ := hx
  have := b.toNat_lt
  simp [inByte]
  omega
theorem bytesOf_ne {s : ByteArray} (h : 0 < s.size) : (!(bytesOf s).isEmpty && (bytesOf s).all inByte) = true := by
  rw [bytesOf_in]
  have : bytesOf s ≠ [] := fun q => by
    have := bytesOf_len s
    rw [q] at this
    simp at this
    omega
  simp [this]
theorem digs_len : ∀ f u : Nat, (digs f u).length ≤ f
  | 0, u => by simp [digs]
  | f + 1, u => by
    rw [digs]
    split
    · simp
    · have := digs_len f (u / 10)
      simp only [List.length_append, List.length_cons, List.length_nil]
      omega
theorem itoaB_size (n : Int) : (itoaB n).size ≤ 21 := by
  rw [← ba_len]
  unfold itoaB
  split
  · have := digs_len 20 n.natAbs
    simp only [List.length_cons]
    omega
  · have := digs_len 20 n.toNat
    simp only
    omega
theorem digit_one {u : Nat} (h : u < 10) : strOf [IntKind.u8.wrap (IntKind.i64.wrap (48 + (u : Int)))] = ⟨#[UInt8.ofNat (48 + u)]⟩ := by
  have e : IntKind.u8.wrap (IntKind.i64.wrap (48 + (u : Int))) = ((48 + u : Nat) : Int) := by
    rw [wi (by omega) (by omega)]
    have : u = 0 ∨ u = 1 ∨ u = 2 ∨ u = 3 ∨ u = 4 ∨ u = 5 ∨ u = 6 ∨ u = 7 ∨ u = 8 ∨ u = 9 := by omega
    rcases this with rfl | rfl | rfl | rfl | rfl | rfl | rfl | rfl | rfl | rfl <;> decide +kernel
  rw [e]
  refine ba_ext ?_
  unfold strOf
  rw [strOfNums_data]
  show [UInt8.ofNat ((48 + u : Nat) : Int).toNat] = [UInt8.ofNat (48 + u)]
  rw [Int.toNat_natCast]
theorem digs_lt (f : Nat) {u : Nat} (h : u < 10) : digs (f + 1) u = [UInt8.ofNat (48 + u)] := by rw [digs, if_pos (by simpa using h)]
theorem digs_ge (f : Nat) {u : Nat} (h : ¬ u < 10) : digs (f + 1) u = digs f (u / 10) ++ [UInt8.ofNat (48 + u % 10)] := by rw [digs, if_neg (by simpa using h)]
theorem digits_nat : ∀ f u : Nat, f ≤ 18 → u < 10 ^ (f + 1) → spyref2_Digits u = some ⟨(digs (f + 1) u).toArray⟩ := by
  intro f
  induction f with
  | zero =>
    intro u _ hu
    have h10 : u < 10 := by simpa using hu
    rw [spyref2_Digits_eq, if_neg (by rw [dt]; omega), if_pos (by rw [dt]; omega), digit_one h10, digs_lt _ h10]
  | succ f ih =>
    intro u hf hu
    have e10 : (10 : Nat) ^ (f + 1 + 1) = 10 ^ (f + 1) * 10 := Nat.pow_succ ..
    have hbig : (10 : Nat) ^ (f + 1) ≤ 10 ^ 18 := Nat.pow_le_pow_right (by omega) (by omega)
    have e18 : (10 : Nat) ^ 18 = 1000000000000000000 := by decide +kernel
    rw [spyref2_Digits_eq, if_neg (by rw [dt]; omega)]
    by_cases h10 : u < 10
    · rw [if_pos (by rw [dt]; omega), digit_one h10, digs_lt _ h10]
    · rw [if_neg (by rw [dt]; omega)]
      have e1 : IntKind.i64.wrap (Int.tdiv (u : Int) 10) = ((u / 10 : Nat) : Int) := by
        rw [Int.tdiv_eq_ediv_of_nonneg (by omega), wi (by omega) (by omega)]
        omega
      have e2 : Int.tmod (u : Int) 10 = ((u % 10 : Nat) : Int) := by
        rw [Int.tmod_eq_emod_of_nonneg (by omega)]
        omega
      have hm : u % 10 < 10 := Nat.mod_lt _ (by omega)
      have hl := digs_len (f + 1) (u / 10)
      rw [e1, ih (u / 10) (by omega) (by omega), bind_some_, e2, digit_one hm, if_pos ?_]
      · rw [digs_ge _ h10]
        exact congrArg some (ba_ext (by rw [toL_app]))
      · have s1 : (ByteArray.mk (digs (f + 1) (u / 10)).toArray).size = (digs (f + 1) (u / 10)).length := by rw [← ba_len]
        have s2 : (ByteArray.mk #[UInt8.ofNat (48 + u % 10)]).size = 1 := rfl
        rw [s1, s2]
        omega
theorem digs_same : ∀ f g u : Nat, u < 10 ^ (f + 1) → u < 10 ^ (g + 1) → digs (f + 1) u = digs (g + 1) u := by
  intro f
  induction f with
  | zero =>
    intro g u h _
    have h' : u < 10 := by simpa using h
    rw [digs_lt _ h', digs_lt _ h']
  | succ f ih =>
    intro g u h k
    by_cases h10 : u < 10
    · rw [digs_lt _ h10, digs_lt _ h10]
    · rw [digs_ge _ h10, digs_ge _ h10]
      cases g with
      | zero => exact absurd (by simpa using k) h10
      | succ g =>
        have e1 : (10 : Nat) ^ (f + 1 + 1) = 10 ^ (f + 1) * 10 := Nat.pow_succ ..
        have e2 : (10 : Nat) ^ (g + 1 + 1) = 10 ^ (g + 1) * 10 := Nat.pow_succ ..
        rw [ih g (u / 10) (by omega) (by omega)]
/-- A number that is not too large. -/
def Small (x : Int) : Prop := -4294967296 ≤ x ∧ x ≤ 4294967296
theorem Small.in64 {x : Int} (h : Small x) : in64 x = true := by
  unfold Pv.in64
  rw [Bool.and_eq_true, decide_eq_true_eq, decide_eq_true_eq]
  unfold Small at h
  omega
theorem digits_ok {n : Int} (h : Small n) : spyref2_Digits n = some (itoaB n) := by
  unfold Small at h
  have e19 : (10 : Nat) ^ (18 + 1) = 10000000000000000000 := by decide +kernel
  have e20 : (10 : Nat) ^ (19 + 1) = 100000000000000000000 := by decide +kernel
  have nat : ∀ u : Nat, u ≤ 4294967296 → spyref2_Digits u = some ⟨(digs 20 u).toArray⟩ := fun u hu => by
    rw [digits_nat 18 u (by omega) (by rw [e19]; omega), digs_same 18 19 u (by rw [e19]; omega) (by rw [e20]; omega)]
  by_cases hn : n < 0
  · rw [spyref2_Digits_eq, if_pos (by rw [dt]; exact hn)]
    have e : IntKind.i64.wrap (0 - n) = (n.natAbs : Int) := by rw [wi (by omega) (by omega)]; omega
    have hl := digs_len 20 n.natAbs
    rw [e, nat _ (by omega), bind_some_, if_pos ?_]
    · unfold itoaB
      rw [if_pos hn]
      exact congrArg some (ba_ext (by rw [toL_app]; rfl))
    · have s1 : (ByteArray.mk (digs 20 n.natAbs).toArray).size = (digs 20 n.natAbs).length := by rw [← ba_len]
      have s2 : (ByteArray.mk #[45]).size = 1 := rfl
      rw [s1, s2]
      omega
  · have e : n = (n.toNat : Int) := by omega
    have := nat n.toNat (by omega)
    rw [← e] at this
    rw [this]
    unfold itoaB
    rw [if_neg hn]
/-! Words behind blanks. -/
abbrev sp : ByteArray := ByteArray.mk #[32]
def cat : List ByteArray → ByteArray
  | [] => ByteArray.empty
  | y :: r => sp ++ (y ++ cat r)
theorem cat_app : ∀ a b : List ByteArray, cat (a ++ b) = cat a ++ cat b
  | [], b => by
    rw [List.nil_append, cat]
    exact (nil_ba _).symm
  | y :: r, b => by rw [List.cons_append, cat, cat, cat_app r b, ba_assoc, ba_assoc]
theorem cat_one (y : ByteArray) : cat [y] = sp ++ y := by rw [cat, cat, ba_nil]
theorem cat_size : ∀ l : List ByteArray, (cat l).size = (l.map fun y => 1 + y.size).sum
  | [] => rfl
  | y :: r => by
    rw [cat, ba_size, ba_size, cat_size r, List.map_cons, List.sum_cons, ← Nat.add_assoc]
    rfl
theorem joinB_cat : ∀ (x : ByteArray) (r : List ByteArray), joinB sp (x :: r) = x ++ cat r
  | x, [] => by rw [joinB, cat, ba_nil]
  | x, y :: r => by rw [joinB, joinB_cat y r, cat]
/-- The closure that adds a word and its numbers. -/
theorem c1_p3 (l : List Int) (hin : ∀ x, x ∈ l → in64 x = true) (hl : l.length ≤ 8) : ∀ (u k : Nat) (acc : List ByteArray), l.length - k = u → k ≤ l.length → acc.length ≤ 100 + k → prop_line_c1.p3 l l.length k acc = some ((), acc ++ (l.drop k).map itoaB) := by
  intro u
  induction u with
  | zero =>
    intro k acc h hk _
    rw [prop_line_c1.p3_eq, if_neg (by rw [dt]; omega), List.drop_eq_nil_of_le (by omega), List.map_nil, List.append_nil]
  | succ u ih =>
    intro k acc h hk ha
    have hlt : k < l.length := by omega
    rw [prop_line_c1.p3_eq, if_pos (by rw [dt]; omega), if_pos (by omega), if_pos (by omega), toNat_nat, getD_nat _ _ hlt, if_pos (hin _ (List.getElem_mem hlt)), if_pos (by omega), wi_nat (by omega),
      ih (k + 1) _ (by omega) (by omega) (by simp; omega), List.drop_eq_getElem_cons hlt, List.map_cons, List.append_assoc]
    rfl
theorem c1_run (key : ByteArray) (l : List Int) (x : List ByteArray) (hk : (key.toList == (ByteArray.mk #[]).toList) = false) (hin : ∀ x, x ∈ l → in64 x = true) (hl : l.length ≤ 8) (hx : x.length ≤ 99) : prop_line_c1 key l x = some ((), x ++ key :: l.map itoaB) := by
  rw [prop_line_c1_eq, if_pos (by rw [hk]; rfl), if_pos (by omega)]
  have := c1_p3 l hin hl _ 0 (x ++ [key]) rfl (by omega) (by simp; omega)
  rw [show ((0 : Nat) : Int) = 0 from rfl, List.drop_zero, List.append_assoc] at this
  exact this
theorem c1_none (l : List Int) (x : List ByteArray) (hin : ∀ x, x ∈ l → in64 x = true) (hl : l.length ≤ 8) (hx : x.length ≤ 99) : prop_line_c1 (ByteArray.mk #[]) l x = some ((), x ++ l.map itoaB) := by
  rw [prop_line_c1_eq, if_neg (by simp)]
  have := c1_p3 l hin hl _ 0 x rfl (by omega) (by omega)
  rw [show ((0 : Nat) : Int) = 0 from rfl, List.drop_zero] at this
  exact this
/-! The reference's loops over words and counts. -/
def chunk : List ByteArray → List Nat → List Int → List ByteArray
  | w :: ws, c :: cs, l => (w :: (l.take c).map itoaB) ++ chunk ws cs (l.drop c)
  | _, _, _ => []
theorem p18_run (counts : List Int) (t33 : List Req) (t34 t35 : Int) (ws : List ByteArray) (len : Int) (t65 : Int) (c : Nat) (hc : c ≤ 100) (p : Progr) : ∀ (m j : Nat) (s : ByteArray) (l : List Int), j + m = c → m ≤ l.length → (∀ x, x ∈ l → Small x) → s.size + (cat ((l.take m).map itoaB)).size < 4611686018427387904 →
    spyref2_Text.p18 s counts l t33 t34 t35 ws len t65 c j p = spyref2_Text.p14 (s ++ cat ((l.take m).map itoaB)) counts (l.drop m) t33 t34 t35 ws len (IntKind.i64.wrap (t65 + 1)) p := by
  intro m
  induction m with
  | zero =>
    intro j s l h _ _ _
    rw [spyref2_Text.p18_eq, if_neg (by rw [dt]; omega), List.take_zero, List.map_nil, cat, ba_nil, List.drop_zero]
  | succ m ih =>
    intro j s l h hm hs hz
    cases l with
    | nil => simp at hm
    | cons x r =>
      have hx := hs x List.mem_cons_self
      have i1 := itoaB_size x
      rw [List.take_succ_cons, List.map_cons] at hz ⊢
      have z1 : (cat (itoaB x :: (r.take m).map itoaB)).size = 1 + ((itoaB x).size + (cat ((r.take m).map itoaB)).size) := by rw [cat, ba_size, ba_size]; rfl
      have z2 : sp.size = 1 := rfl
      have z3 : (sp ++ itoaB x).size = 1 + (itoaB x).size := by rw [ba_size]; rfl
      rw [z1] at hz
      have hlen : ((x :: r).length : Int) = (r.length : Int) + 1 := by simp
      rw [spyref2_Text.p18_eq, if_pos (by rw [dt]; omega), if_pos (by omega), List.getD_cons_zero, digits_ok hx, bind_some_, if_pos (by rw [z2]; omega), if_pos (by rw [z3]; omega), if_pos (by omega), List.take_length, List.drop_succ_cons, List.drop_zero, wi_nat (by omega),
        ih (j + 1) _ r (by omega) (by simpa using hm) (fun y hy => hs y (List.mem_cons_of_mem _ hy)) (by rw [ba_size, z3]; omega), List.drop_succ_cons, cat, ba_assoc, ba_assoc]
theorem p14_run (t33 : List Req) (t34 t35 : Int) (p : Progr) (ws : List ByteArray) (cs : List Nat) (hcs : cs.length = ws.length) (hl : ws.length ≤ 100) (h100 : ∀ c, c ∈ cs → c ≤ 100) : ∀ (u k : Nat) (s : ByteArray) (l : List Int), ws.length - k = u → k ≤ ws.length → (cs.drop k).sum ≤ l.length → (∀ x, x ∈ l → Small x) →
    s.size + (cat (chunk (ws.drop k) (cs.drop k) l)).size < 4611686018427387904 →
    spyref2_Text.p14 s (cs.map fun c : Nat => (c : Int)) l t33 t34 t35 ws ws.length k p = spyref2_Text.p8 (s ++ cat (chunk (ws.drop k) (cs.drop k) l) ++ ByteArray.mk #[10]) t33 t34 (IntKind.i64.wrap (t35 + 1)) p := by
  intro u
  induction u with
  | zero =>
    intro k s l h hk _ _ hz
    have z1 : (ByteArray.mk #[10]).size = 1 := rfl
    rw [spyref2_Text.p14_eq, if_neg (by rw [dt]; omega), List.drop_eq_nil_of_le (show ws.length ≤ k by omega), if_pos (by rw [z1]; omega), chunk, cat, ba_nil]
    intro _ _ _ _ q _
    cases q
  | succ u ih =>
    intro k s l h hk hsum hs hz
    have hlt : k < ws.length := by omega
    have hlc : k < cs.length := by omega
    have e1 := List.drop_eq_getElem_cons hlt
    have e2 := List.drop_eq_getElem_cons hlc
    rw [e1, e2, chunk, List.cons_append] at hz ⊢
    rw [e2, List.sum_cons] at hsum
    have z1 : ∀ m, (cat (ws[k] :: m)).size = 1 + (ws[k].size + (cat m).size) := fun m => by rw [cat, ba_size, ba_size]; rfl
    have z2 : sp.size = 1 := rfl
    have z3 : (sp ++ ws[k]).size = 1 + ws[k].size := by rw [ba_size]; rfl
    rw [z1, cat_app, ba_size] at hz
    have gc : (cs.map fun c : Nat => (c : Int)).getD k 0 = (cs[k] : Int) := by
      rw [getD_nat _ _ (by rw [List.length_map]; exact hlc), List.getElem_map]
    rw [spyref2_Text.p14_eq, if_pos (by rw [dt]; omega), if_pos (by omega), if_pos (by omega), toNat_nat, getD_nat _ _ hlt, if_pos (by rw [z2]; omega), if_pos (by rw [z3]; omega), if_pos (by omega), if_pos (by rw [List.length_map]; omega), gc]
    have := p18_run (cs.map fun c : Nat => (c : Int)) t33 t34 t35 ws ws.length k cs[k] (h100 _ (List.getElem_mem hlc)) p cs[k] 0 (s ++ (sp ++ ws[k])) l (by omega) (by omega) hs (by rw [ba_size, z3]; omega)
    rw [show ((0 : Nat) : Int) = 0 from rfl] at this
    rw [this, wi_nat (by omega), ih (k + 1) _ (l.drop cs[k]) (by omega) (by omega) (by rw [List.length_drop]; omega) (fun x hx => hs x (List.mem_of_mem_drop hx)) (by rw [ba_size, ba_size, z3]; omega)]
    congr 1
    rw [cat, cat_app]
    simp only [ba_assoc]

end Go.Proofs.YtgmdmfbdolbpnaaDoor.Pure
