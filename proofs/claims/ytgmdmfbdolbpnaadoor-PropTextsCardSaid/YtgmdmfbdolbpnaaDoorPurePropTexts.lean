/- PropTexts: the pure statement, proved. -/
import Derived.Test.YtgmdmfbdolbpnaaDoorEA0
import Derived.Test.YtgmdmfbdolbpnaaDoorEA1
import Derived.Test.YtgmdmfbdolbpnaaDoorPl
import Derived.Test.YtgmdmfbdolbpnaaDoorLemA
import Derived.Test.YtgmdmfbdolbpnaaDoorLemB
namespace Go.Proofs.YtgmdmfbdolbpnaaDoor.Pure
set_option linter.unusedVariables false
set_option linter.unusedSimpArgs false
open Go Go.RowKit Go.Proofs.YtgmdmfbdolbpnaaDoor.Pv Go.Proofs.YtgmdmfbdolbpnaaDoor.Pl Go.Proofs.YtgmdmfbdolbpnaaDoor.EA

/-! What a valid programme holds. -/
theorem req_small {r : Req} (h : spyref2_RequestFault r = some 0) : Small r.1 ∧ Small r.2.2.1.1 ∧ Small r.2.2.1.2.1 ∧ Small r.2.2.1.2.2 ∧ Small r.2.2.2.1 ∧ Small r.2.2.2.2.1 ∧ (r.2.2.2.2.1 > 1 → Small r.2.2.2.2.2.1 ∧ Small r.2.2.2.2.2.2.1) ∧
    Small r.2.2.2.2.2.2.2.1 ∧ Small r.2.2.2.2.2.2.2.2.1 ∧ Small r.2.2.2.2.2.2.2.2.2.1 ∧ Small r.2.2.2.2.2.2.2.2.2.2 := by
  rw [spyref2_RequestFault_eq, in_val, in_val, in_val, dir_val] at h
  simp only [bind_some_] at h
  obtain ⟨a1, h⟩ := ite_1 (by omega) h
  obtain ⟨a2, h⟩ := ite_1 (by omega) h
  obtain ⟨a3, h⟩ := ite_0 (by omega) h
  obtain ⟨a4, h⟩ := ite_1 (by omega) h
  rw [not_t, df] at a1 a2 a4
  rw [not_f, dt] at a3
  have b1 := Classical.byContradiction a1
  have b2 := Classical.byContradiction a2
  have b4 := Classical.byContradiction a4
  have h9 : spyref2_RequestFault.p9 r = some 0 := by
    rcases ite_some h with ⟨_, h⟩ | ⟨_, h⟩
    · obtain ⟨_, h⟩ := ite_0 (by omega) h
      exact (ite_1 (by omega) h).2
    · exact h
  have h11 : spyref2_RequestFault.p11 r = some 0 ∧ (r.2.2.2.2.1 > 1 → Small r.2.2.2.2.2.1 ∧ Small r.2.2.2.2.2.2.1) := by
    rw [spyref2_RequestFault.p9_eq, in_val, in_val, bind_some_, bind_some_] at h9
    rcases ite_some h9 with ⟨c, h9⟩ | ⟨c, h9⟩
    · obtain ⟨c1, h9⟩ := ite_0 (by omega) h9
      obtain ⟨c2, h9⟩ := ite_1 (by omega) h9
      rw [not_f, dt] at c1
      rw [not_t, df] at c2
      have c2 := Classical.byContradiction c2
      exact ⟨h9, fun _ => by unfold Small; omega⟩
    · rw [dt] at c
      exact ⟨h9, fun q => absurd q c⟩
  obtain ⟨h11, hg⟩ := h11
  rw [spyref2_RequestFault.p11_eq, in_val, in_val, bind_some_, bind_some_] at h11
  obtain ⟨d1, h11⟩ := ite_0 (by omega) h11
  obtain ⟨d2, h11⟩ := ite_0 (by omega) h11
  obtain ⟨d3, h11⟩ := ite_0 (by omega) h11
  obtain ⟨d4, h11⟩ := ite_1 (by omega) h11
  obtain ⟨d5, h11⟩ := ite_0 (by omega) h11
  obtain ⟨d6, h11⟩ := ite_1 (by omega) h11
  rw [df] at d1 d2 d3
  rw [dt] at d4
  rw [not_f, dt] at d5
  rw [not_t, df] at d6
  have d6 := Classical.byContradiction d6
  unfold Small at hg ⊢
  refine ⟨by omega, by omega, by omega, by omega, by omega, by omega, hg, by omega, by omega, by omega, by omega⟩
theorem name_len {s : ByteArray} (h : spyref2_NameOK s = some true) : s.size ≤ 12 := by
  rw [spyref2_NameOK_eq] at h
  by_cases h1 : decide ((s.size : Int) < 1) = false
  · rw [if_pos h1] at h
    by_cases h2 : decide ((s.size : Int) > 12) = true
    · rw [if_pos h2] at h
      cases h
    · rw [dt] at h2
      omega
  · rw [df] at h1
    omega
theorem prop_small {x : ByteArray × Int} (h : spyref2_ProposalFault x = some 0) : x.1.size ≤ 12 ∧ Small x.2 := by
  obtain ⟨b, _, hb, _⟩ := name_same x.1
  rw [spyref2_ProposalFault_eq, hb, in_val, bind_some_, bind_some_] at h
  obtain ⟨a1, h⟩ := ite_1 (by omega) h
  obtain ⟨a2, h⟩ := ite_1 (by omega) h
  rw [not_t] at a1 a2
  rw [df] at a2
  have a2 := Classical.byContradiction a2
  have : b = true := by
    cases b with
    | true => rfl
    | false => exact absurd rfl a1
  subst this
  exact ⟨name_len hb, by unfold Small; omega⟩
open Classical in
theorem props_ok (p : Progr) (hl : p.1.length ≤ 6) : ∀ (u k : Nat), p.1.length - k = u → k ≤ p.1.length → spyref2_ProgrammeFault.p4 p.1 p.1.length k p = some 0 → ∀ j, k ≤ j → (h : j < p.1.length) → spyref2_ProposalFault p.1[j] = some 0 := by
  intro u
  induction u with
  | zero => intro k h hk _ j h1 h2; omega
  | succ u ih =>
    intro k h hk hf j h1 h2
    have hlt : k < p.1.length := by omega
    rw [spyref2_ProgrammeFault.p4_eq, if_pos (by rw [dt]; omega), if_pos (by omega), if_pos (by omega), toNat_nat, getD_nat _ _ hlt] at hf
    obtain ⟨e, _, he, _⟩ := proposal_same p.1[k]
    rw [he, bind_some_] at hf
    obtain ⟨e0, hf2⟩ := ite_e hf
    subst e0
    by_cases c : j = k
    · subst c
      exact he
    · rw [if_pos (show (0 : Int) ≤ k by omega), if_pos (show (k : Int) ≤ p.1.length by omega)] at hf2
      have pp := prog_p10 p p.1 p.1.length k p.1[k] (p.1.take k) (by simp; omega) _ 0 rfl (by omega)
      rw [show ((0 : Nat) : Int) = 0 from rfl, List.drop_zero] at pp
      rw [pp, wi_nat (by omega)] at hf2
      rcases ite_some hf2 with ⟨_, q⟩ | ⟨_, q⟩
      · cases q
      · exact ih (k + 1) (by omega) (by omega) q j (by omega) h2
structure Valid (p : Progr) : Prop where
  names : p.1.length ≤ 6
  reqs : p.2.length ≤ 16
  prop : ∀ x, x ∈ p.1 → x.1.size ≤ 12 ∧ Small x.2
  req : ∀ r, r ∈ p.2 → spyref2_RequestFault r = some 0 ∧ 0 ≤ r.2.1 ∧ r.2.1 < p.1.length
theorem valid_of {p : Progr} (h : spyref2_ProgrammeFault p = some 0) : Valid p := by
  obtain ⟨e, _, he, hr⟩ := prog_same p
  rw [he] at h
  cases h
  have ok := hr rfl
  refine ⟨ok.names, ok.reqs, fun x hx => ?_, fun r hr => ?_⟩
  · obtain ⟨j, hj, rfl⟩ := List.getElem_of_mem hx
    rw [spyref2_ProgrammeFault_eq] at he
    obtain ⟨_, he⟩ := ite_0 (by omega) he
    obtain ⟨_, he⟩ := ite_1 (by omega) he
    exact prop_small (props_ok p ok.names _ 0 rfl (by omega) he j (by omega) hj)
  · obtain ⟨j, hj, rfl⟩ := List.getElem_of_mem hr
    obtain ⟨a, b, c, _⟩ := ok.at_ j hj
    exact ⟨a, b, c⟩
/-! The text of a request. -/
def wordsOf (g : Bool) : List ByteArray :=
  if g = true then [(ByteArray.mk #[97, 116]), (ByteArray.mk #[108, 101, 110]), (ByteArray.mk #[118, 105, 115, 105, 116, 115]), (ByteArray.mk #[103, 97, 112]), (ByteArray.mk #[104, 101, 105, 103, 104, 116]), (ByteArray.mk #[109, 111, 111, 110]), (ByteArray.mk #[99, 108, 111, 117, 100]), (ByteArray.mk #[119, 101, 105, 103, 104, 116])]
  else [(ByteArray.mk #[97, 116]), (ByteArray.mk #[108, 101, 110]), (ByteArray.mk #[118, 105, 115, 105, 116, 115]), (ByteArray.mk #[104, 101, 105, 103, 104, 116]), (ByteArray.mk #[109, 111, 111, 110]), (ByteArray.mk #[99, 108, 111, 117, 100]), (ByteArray.mk #[119, 101, 105, 103, 104, 116])]
def countsOf (g : Bool) : List Nat := if g = true then [3, 1, 1, 2, 1, 1, 1, 1] else [3, 1, 1, 1, 1, 1, 1]
def numsOf (g : Bool) (r : Req) : List Int :=
  if g = true then [r.2.2.1.1, r.2.2.1.2.1, r.2.2.1.2.2, r.2.2.2.1, r.2.2.2.2.1, r.2.2.2.2.2.1, r.2.2.2.2.2.2.1, r.2.2.2.2.2.2.2.1, r.2.2.2.2.2.2.2.2.1, r.2.2.2.2.2.2.2.2.2.1, r.2.2.2.2.2.2.2.2.2.2]
  else [r.2.2.1.1, r.2.2.1.2.1, r.2.2.1.2.2, r.2.2.2.1, r.2.2.2.2.1, r.2.2.2.2.2.2.2.1, r.2.2.2.2.2.2.2.2.1, r.2.2.2.2.2.2.2.2.2.1, r.2.2.2.2.2.2.2.2.2.2]
abbrev gapOf (r : Req) : Bool := decide (r.2.2.2.2.1 > 1)
def tailOf (r : Req) : List ByteArray := chunk (wordsOf (gapOf r)) (countsOf (gapOf r)) (numsOf (gapOf r) r)
abbrev nameOf (p : Progr) (r : Req) : ByteArray := (p.1.getD r.2.1.toNat (ByteArray.empty, 0)).1
def reqText (p : Progr) (r : Req) : ByteArray := ByteArray.mk #[114, 101, 113, 117, 101, 115, 116] ++ cat ([itoaB r.1, ByteArray.mk #[102, 111, 114], nameOf p r] ++ tailOf r)
theorem cat_le {b : Nat} : ∀ l : List ByteArray, (∀ y, y ∈ l → y.size ≤ b) → (cat l).size ≤ (b + 1) * l.length
  | [], _ => by simp [cat_size]
  | y :: r, h => by
    have h1 := h y List.mem_cons_self
    have h2 := cat_le r fun z hz => h z (List.mem_cons_of_mem _ hz)
    rw [cat, ba_size, ba_size, List.length_cons, Nat.mul_succ]
    have : sp.size = 1 := rfl
    omega
theorem chunk_mem : ∀ (ws : List ByteArray) (cs : List Nat) (l : List Int) (y : ByteArray), y ∈ chunk ws cs l → y ∈ ws ∨ ∃ x, y = itoaB x
  | [], cs, l, y, h => by rw [chunk] at h; · cases h
                          · intro _ _ _ _ q _; cases q
  | w :: ws, [], l, y, h => by rw [chunk] at h; · cases h
                               · intro _ _ _ _ _ q; cases q
  | w :: ws, c :: cs, l, y, h => by
    rw [chunk, List.cons_append, List.mem_cons, List.mem_append] at h
    rcases h with h | h | h
    · exact .inl (h ▸ List.mem_cons_self)
    · obtain ⟨x, _, rfl⟩ := List.mem_map.1 h
      exact .inr ⟨x, rfl⟩
    · rcases chunk_mem ws cs _ y h with q | q
      · exact .inl (List.mem_cons_of_mem _ q)
      · exact .inr q
theorem words_le (g : Bool) (y : ByteArray) (h : y ∈ wordsOf g) : y.size ≤ 30 := by
  have : ∀ l : List ByteArray, (l.all fun y => decide (y.size ≤ 30)) = true → y ∈ l → y.size ≤ 30 := fun l q hy => by simpa using List.all_eq_true.1 q y hy
  cases g with
  | true => exact this _ (by decide +kernel) h
  | false => exact this _ (by decide +kernel) h
theorem tail_le (r : Req) : (cat (tailOf r)).size ≤ 1000 := by
  have hl : (tailOf r).length ≤ 20 := by
    unfold tailOf
    cases gapOf r with
    | true => exact Nat.le_trans (Nat.le_of_eq (show _ = 19 from rfl)) (by omega)
    | false => exact Nat.le_trans (Nat.le_of_eq (show _ = 16 from rfl)) (by omega)
  have := cat_le (b := 30) (tailOf r) fun y hy => by
    rcases chunk_mem _ _ _ y hy with q | ⟨x, rfl⟩
    · exact words_le _ y q
    · have := itoaB_size x
      omega
  have h2 : (30 + 1) * (tailOf r).length ≤ (30 + 1) * 20 := Nat.mul_le_mul_left _ hl
  omega
theorem req_le (p : Progr) (r : Req) (hn : (nameOf p r).size ≤ 12) : (reqText p r).size ≤ 2000 := by
  have h1 := tail_le r
  have h2 := itoaB_size r.1
  have s1 : (ByteArray.mk #[114, 101, 113, 117, 101, 115, 116]).size = 7 := rfl
  have s2 : (ByteArray.mk #[102, 111, 114]).size = 3 := rfl
  unfold reqText
  rw [ba_size, cat_app, ba_size, cat_size]
  simp only [List.map_cons, List.map_nil, List.sum_cons, List.sum_nil]
  omega
theorem all64 {l : List Int} (h : ∀ x, x ∈ l → Small x) : ∀ x, x ∈ l → in64 x = true := fun x hx => (h x hx).in64
theorem line_run (p : Progr) (r : Req) (hr : spyref2_RequestFault r = some 0) (h0 : 0 ≤ r.2.1) (h1 : r.2.1 < p.1.length) (hn : (nameOf p r).size ≤ 12) : prop_line p r = some (reqText p r) := by
  obtain ⟨s1, s2, s3, s4, s5, s6, s7, s8, s9, s10, s11⟩ := req_small hr
  have one : ∀ x : Int, Small x → ∀ y, y ∈ [x] → in64 y = true := fun x hx => all64 (by simpa using hx)
  have hjoin : ∀ l : List ByteArray, ByteArray.mk #[114, 101, 113, 117, 101, 115, 116] :: l = ByteArray.mk #[114, 101, 113, 117, 101, 115, 116] :: ([itoaB r.1, ByteArray.mk #[102, 111, 114], nameOf p r] ++ tailOf r) → l.length ≤ 100 →
      (if (Nat.ble (ByteArray.mk #[114, 101, 113, 117, 101, 115, 116] :: l).length 140737488355328 && Nat.ble (joinB (ByteArray.mk #[32]) (ByteArray.mk #[114, 101, 113, 117, 101, 115, 116] :: l)).size 140737488355328) = true then (some (joinB (ByteArray.mk #[32]) (ByteArray.mk #[114, 101, 113, 117, 101, 115, 116] :: l))) else none) = some (reqText p r) := by
    intro l e hl
    rw [e, joinB_cat]
    have hz := req_le p r hn
    unfold reqText at hz ⊢
    have hl2 : (ByteArray.mk #[114, 101, 113, 117, 101, 115, 116] :: ([itoaB r.1, ByteArray.mk #[102, 111, 114], nameOf p r] ++ tailOf r)).length ≤ 101 := by
      rw [← e]
      simpa using hl
    rw [if_pos]
    rw [Bool.and_eq_true, Nat.ble_eq, Nat.ble_eq]
    omega
  rw [prop_line_eq, if_pos s1.in64, if_pos h0, if_pos h1]
  rw [c1_none _ _ (all64 (by simpa using ⟨s2, s3, s4⟩)) (by simp) (by simp), bind_some_, c1_run _ _ _ (by kernel_rfl) (one _ s5) (by simp) (by simp), bind_some_, c1_run _ _ _ (by kernel_rfl) (one _ s6) (by simp) (by simp), bind_some_]
  have p8 : ∀ (l : List ByteArray), l.length ≤ 90 → prop_line.p8 r l = (if (Nat.ble (l ++ [ByteArray.mk #[104, 101, 105, 103, 104, 116], itoaB r.2.2.2.2.2.2.2.1, ByteArray.mk #[109, 111, 111, 110], itoaB r.2.2.2.2.2.2.2.2.1, ByteArray.mk #[99, 108, 111, 117, 100], itoaB r.2.2.2.2.2.2.2.2.2.1, ByteArray.mk #[119, 101, 105, 103, 104, 116], itoaB r.2.2.2.2.2.2.2.2.2.2]).length 140737488355328 && Nat.ble (joinB (ByteArray.mk #[32]) (l ++ [ByteArray.mk #[104, 101, 105, 103, 104, 116], itoaB r.2.2.2.2.2.2.2.1, ByteArray.mk #[109, 111, 111, 110], itoaB r.2.2.2.2.2.2.2.2.1, ByteArray.mk #[99, 108, 111, 117, 100], itoaB r.2.2.2.2.2.2.2.2.2.1, ByteArray.mk #[119, 101, 105, 103, 104, 116], itoaB r.2.2.2.2.2.2.2.2.2.2])).size 140737488355328) = true then (some (joinB (ByteArray.mk #[32]) (l ++ [ByteArray.mk #[104, 101, 105, 103, 104, 116], itoaB r.2.2.2.2.2.2.2.1, ByteArray.mk #[109, 111, 111, 110], itoaB r.2.2.2.2.2.2.2.2.1, ByteArray.mk #[99, 108, 111, 117, 100], itoaB r.2.2.2.2.2.2.2.2.2.1, ByteArray.mk #[119, 101, 105, 103, 104, 116], itoaB r.2.2.2.2.2.2.2.2.2.2]))) else none) := by
    intro l hl
    rw [prop_line.p8_eq, c1_run _ _ _ (by kernel_rfl) (one _ s8) (by simp) (by omega), bind_some_, c1_run _ _ _ (by kernel_rfl) (one _ s9) (by simp) (by simp; omega), bind_some_, c1_run _ _ _ (by kernel_rfl) (one _ s10) (by simp) (by simp; omega), bind_some_, c1_run _ _ _ (by kernel_rfl) (one _ s11) (by simp) (by simp; omega), bind_some_]
    simp only [List.map_cons, List.map_nil, List.append_assoc, List.cons_append, List.nil_append]
  by_cases g : r.2.2.2.2.1 > 1
  · have gt : gapOf r = true := by rw [dt]; exact g
    rw [if_pos gt, c1_run _ _ _ (by kernel_rfl) (all64 (by simpa using s7 g)) (by simp) (by simp), bind_some_, p8 _ (by simp)]
    refine hjoin _ ?_ (by simp)
    unfold tailOf wordsOf countsOf numsOf
    rw [gt]
    rfl
  · have gf : gapOf r = false := by rw [df]; exact g
    rw [if_neg (by rw [show decide (r.2.2.2.2.1 > 1) = false from gf]; simp), p8 _ (by simp)]
    refine hjoin _ ?_ (by simp)
    unfold tailOf wordsOf countsOf numsOf
    rw [gf]
    rfl
/-! The whole text. -/
def propText (x : ByteArray × Int) : ByteArray := ((((ByteArray.mk #[112, 114, 111, 112, 111, 115, 97, 108, 32]) ++ x.1) ++ (ByteArray.mk #[32, 115, 104, 97, 114, 101, 32])) ++ (itoaB x.2)) ++ (ByteArray.mk #[10])
def catP : List (ByteArray × Int) → ByteArray
  | [] => ByteArray.empty
  | x :: r => propText x ++ catP r
def catR (p : Progr) : List Req → ByteArray
  | [] => ByteArray.empty
  | x :: r => (reqText p x ++ ByteArray.mk #[10]) ++ catR p r
theorem prop_le {x : ByteArray × Int} (h : x.1.size ≤ 12) : 0 < (propText x).size ∧ (propText x).size ≤ 2000 := by
  have h2 := itoaB_size x.2
  unfold propText
  rw [ba_size, ba_size, ba_size, ba_size]
  have s1 : (ByteArray.mk #[112, 114, 111, 112, 111, 115, 97, 108, 32]).size = 9 := rfl
  have s2 : (ByteArray.mk #[32, 115, 104, 97, 114, 101, 32]).size = 7 := rfl
  have s3 : (ByteArray.mk #[10]).size = 1 := rfl
  omega
section
variable (p : Progr) (hv : Valid p)
include hv
theorem name_le {r : Req} (h : r ∈ p.2) : (nameOf p r).size ≤ 12 := by
  obtain ⟨_, h0, h1⟩ := hv.req r h
  have hlt : r.2.1.toNat < p.1.length := by omega
  show (p.1.getD r.2.1.toNat _).1.size ≤ 12
  rw [getD_nat _ _ hlt]
  exact (hv.prop _ (List.getElem_mem hlt)).1
theorem p11v2_run : ∀ (u k : Nat) (s : ByteArray), p.2.length - k = u → k ≤ p.2.length → 0 < s.size → s.size ≤ 100000 + 3000 * k → prop_Text.p11v2 p.2 p.2.length k p (bytesOf s) = some (s ++ catR p (p.2.drop k), 0) := by
  intro u
  induction u with
  | zero =>
    intro k s h hk h0 _
    rw [prop_Text.p11v2_eq, if_neg (by rw [dt]; omega), List.drop_eq_nil_of_le (by omega), if_pos (bytesOf_ne h0), strOf_bytesOf, catR, ba_nil]
  | succ u ih =>
    intro k s h hk h0 hz
    have hlt : k < p.2.length := by omega
    have hl := hv.reqs
    have hm : p.2[k] ∈ p.2 := List.getElem_mem hlt
    obtain ⟨a, b, c⟩ := hv.req _ hm
    have hle := req_le p p.2[k] (name_le p hv hm)
    have e10 : (bytesOf s ++ bytesOf (reqText p p.2[k])) ++ ([10] : List Int) = bytesOf (s ++ (reqText p p.2[k] ++ ByteArray.mk #[10])) := by rw [bytesOf_app, bytesOf_app, List.append_assoc]; rfl
    have s1 : (ByteArray.mk #[10]).size = 1 := rfl
    rw [prop_Text.p11v2_eq, if_pos (by rw [dt]; omega), if_pos (by omega), if_pos (by omega), toNat_nat, getD_nat _ _ hlt, line_run p _ a b c (name_le p hv hm), bind_some_, bytesOf_len, if_pos (by omega), List.length_append, bytesOf_len, bytesOf_len, if_pos (by omega), e10, wi_nat (by omega),
      ih (k + 1) _ (by omega) (by omega) (by rw [ba_size]; omega) (by rw [ba_size, ba_size, s1]; omega), List.drop_eq_getElem_cons hlt, catR, ba_assoc]
theorem p11v1_run (s : ByteArray) (h0 : 0 < s.size) (hz : s.size ≤ 90000) : prop_Text.p11v1 p.2 p.2.length 0 p (bytesOf s) = some (s ++ catR p p.2, 0) := by
  rw [prop_Text.p11v1_eq]
  by_cases hlt : 0 < p.2.length
  · have hm : p.2[0] ∈ p.2 := List.getElem_mem hlt
    obtain ⟨a, b, c⟩ := hv.req _ hm
    have hle := req_le p p.2[0] (name_le p hv hm)
    have e10 : (bytesOf s ++ bytesOf (reqText p p.2[0])) ++ ([10] : List Int) = bytesOf (s ++ (reqText p p.2[0] ++ ByteArray.mk #[10])) := by rw [bytesOf_app, bytesOf_app, List.append_assoc]; rfl
    have s1 : (ByteArray.mk #[10]).size = 1 := rfl
    have := p11v2_run p hv _ 1 (s ++ (reqText p p.2[0] ++ ByteArray.mk #[10])) rfl (by omega) (by rw [ba_size]; omega) (by rw [ba_size, ba_size, s1]; omega)
    rw [if_pos (by rw [dt]; omega), if_pos (by omega), if_pos (by omega), show (0 : Int).toNat = 0 from rfl, getD_nat _ _ hlt, line_run p _ a b c (name_le p hv hm), bind_some_, bytesOf_len, if_pos (by omega), List.length_append, bytesOf_len, bytesOf_len, if_pos (by omega), e10,
      show IntKind.i64.wrap (0 + 1) = ((1 : Nat) : Int) from by decide +kernel, this]
    have e := List.drop_eq_getElem_cons hlt
    rw [List.drop_zero] at e
    conv => rhs; rw [e]
    rw [catR, ba_assoc]
  · have e : p.2 = [] := List.eq_nil_of_length_eq_zero (by omega)
    rw [if_neg (by rw [dt]; omega), if_pos (bytesOf_ne h0), strOf_bytesOf, e, catR, ba_nil]
theorem p11_run : prop_Text.p11 p.2 p.2.length 0 p = some (catR p p.2, 0) := by
  rw [prop_Text.p11_eq]
  by_cases hlt : 0 < p.2.length
  · have hm : p.2[0] ∈ p.2 := List.getElem_mem hlt
    obtain ⟨a, b, c⟩ := hv.req _ hm
    have hle := req_le p p.2[0] (name_le p hv hm)
    have e10 : bytesOf (reqText p p.2[0]) ++ ([10] : List Int) = bytesOf (reqText p p.2[0] ++ ByteArray.mk #[10]) := by rw [bytesOf_app]; rfl
    have s1 : (ByteArray.mk #[10]).size = 1 := rfl
    have := p11v2_run p hv _ 1 (reqText p p.2[0] ++ ByteArray.mk #[10]) rfl (by omega) (by rw [ba_size]; omega) (by rw [ba_size, s1]; omega)
    rw [if_pos (by rw [dt]; omega), if_pos (by omega), if_pos (by omega), show (0 : Int).toNat = 0 from rfl, getD_nat _ _ hlt, line_run p _ a b c (name_le p hv hm), bind_some_, if_pos (by omega), bytesOf_len, if_pos (by omega), e10,
      show IntKind.i64.wrap (0 + 1) = ((1 : Nat) : Int) from by decide +kernel, this]
    have e := List.drop_eq_getElem_cons hlt
    rw [List.drop_zero] at e
    conv => rhs; rw [e]
    rw [catR]
  · have e : p.2 = [] := List.eq_nil_of_length_eq_zero (by omega)
    rw [if_neg (by rw [dt]; omega), e, catR]
    rfl
theorem p6v1_run : ∀ (u k : Nat) (s : ByteArray), p.1.length - k = u → k ≤ p.1.length → 0 < s.size → s.size ≤ 3000 * (k + 1) → prop_Text.p6v1 p.1 p.1.length k p (bytesOf s) = some (s ++ catP (p.1.drop k) ++ catR p p.2, 0) := by
  intro u
  induction u with
  | zero =>
    intro k s h hk h0 hz
    have := hv.names
    rw [prop_Text.p6v1_eq, if_neg (by rw [dt]; omega), List.drop_eq_nil_of_le (by omega), p11v1_run p hv s h0 (by omega), catP, ba_nil]
  | succ u ih =>
    intro k s h hk h0 hz
    have hlt : k < p.1.length := by omega
    have hn := hv.names
    obtain ⟨a, b⟩ := hv.prop _ (List.getElem_mem hlt)
    have hle := prop_le a
    have hi := itoaB_size p.1[k].2
    have s1 : (ByteArray.mk #[112, 114, 111, 112, 111, 115, 97, 108, 32]).size = 9 := rfl
    have s2 : (ByteArray.mk #[32, 115, 104, 97, 114, 101, 32]).size = 7 := rfl
    have s3 : (ByteArray.mk #[10]).size = 1 := rfl
    rw [prop_Text.p6v1_eq, if_pos (by rw [dt]; omega), if_pos (by omega), if_pos (by omega), toNat_nat, getD_nat _ _ hlt, if_pos (by omega), if_pos (by rw [ba_size]; omega), if_pos b.in64, if_pos (by rw [ba_size, ba_size]; omega), if_pos (by rw [ba_size, ba_size, ba_size]; omega)]
    show (if (bytesOf s).length + (propText p.1[k]).size ≤ 140737488355328 then prop_Text.p6v1 p.1 p.1.length (IntKind.i64.wrap (k + 1)) p (bytesOf s ++ bytesOf (propText p.1[k])) else none) = _
    rw [bytesOf_len, if_pos (by omega), ← bytesOf_app, wi_nat (by omega), ih (k + 1) _ (by omega) (by omega) (by rw [ba_size]; omega) (by rw [ba_size]; omega), List.drop_eq_getElem_cons hlt, catP, ba_assoc s]
theorem text_run (hc : prop_Check p = some 0) : prop_Text p = some (catP p.1 ++ catR p p.2, 0) := by
  rw [prop_Text_eq, hc, bind_some_, if_neg (by decide), prop_Text.p6_eq]
  by_cases hlt : 0 < p.1.length
  · have hn := hv.names
    obtain ⟨a, b⟩ := hv.prop _ (List.getElem_mem hlt)
    have hle := prop_le a
    have hi := itoaB_size p.1[0].2
    have s1 : (ByteArray.mk #[112, 114, 111, 112, 111, 115, 97, 108, 32]).size = 9 := rfl
    have s2 : (ByteArray.mk #[32, 115, 104, 97, 114, 101, 32]).size = 7 := rfl
    have s3 : (ByteArray.mk #[10]).size = 1 := rfl
    rw [if_pos (by rw [dt]; omega), if_pos (by omega), if_pos (by omega), show (0 : Int).toNat = 0 from rfl, getD_nat _ _ hlt, if_pos (by omega), if_pos (by rw [ba_size]; omega), if_pos b.in64, if_pos (by rw [ba_size, ba_size]; omega), if_pos (by rw [ba_size, ba_size, ba_size]; omega)]
    show (if 0 + (propText p.1[0]).size ≤ 140737488355328 then prop_Text.p6v1 p.1 p.1.length (IntKind.i64.wrap (0 + 1)) p (bytesOf (propText p.1[0])) else none) = _
    have e := List.drop_eq_getElem_cons hlt
    rw [List.drop_zero] at e
    rw [if_pos (by omega), show IntKind.i64.wrap (0 + 1) = ((1 : Nat) : Int) from by decide +kernel, p6v1_run p hv _ 1 _ rfl (by omega) hle.1 (by omega)]
    conv => rhs; rw [e]
    rw [catP]
  · have e : p.1 = [] := List.eq_nil_of_length_eq_zero (by omega)
    rw [if_neg (by rw [dt]; omega), p11_run p hv, e, catP]
    exact congrArg (fun x => some (x, (0 : Int))) (nil_ba _).symm
theorem ref_p8 : ∀ (u k : Nat) (s : ByteArray), p.2.length - k = u → k ≤ p.2.length → s.size ≤ 100000 + 3000 * k → spyref2_Text.p8 s p.2 p.2.length k p = some (s ++ catR p (p.2.drop k)) := by
  intro u
  induction u with
  | zero =>
    intro k s h hk _
    rw [spyref2_Text.p8_eq, if_neg (by rw [dt]; omega), List.drop_eq_nil_of_le (by omega), catR, ba_nil]
  | succ u ih =>
    intro k s h hk hz
    have hlt : k < p.2.length := by omega
    have hl := hv.reqs
    have hm : p.2[k] ∈ p.2 := List.getElem_mem hlt
    obtain ⟨a, b, c⟩ := hv.req _ hm
    obtain ⟨q1, q2, q3, q4, q5, q6, q7, q8, q9, q10, q11⟩ := req_small a
    have hn := name_le p hv hm
    have hn2 : (p.1.getD p.2[k].2.1.toNat (ByteArray.empty, 0)).1.size ≤ 12 := hn
    have hle := req_le p p.2[k] hn
    have hi := itoaB_size p.2[k].1
    have ht := tail_le p.2[k]
    have s1 : (ByteArray.mk #[10]).size = 1 := rfl
    have s2 : (ByteArray.mk #[114, 101, 113, 117, 101, 115, 116, 32]).size = 8 := rfl
    have s3 : (ByteArray.mk #[32, 102, 111, 114, 32]).size = 5 := rfl
    have hsum : (countsOf (gapOf p.2[k])).sum ≤ (numsOf (gapOf p.2[k]) p.2[k]).length := by
      cases gapOf p.2[k] with
      | true => exact Nat.le_refl 11
      | false => exact Nat.le_refl 9
    have hcl : (countsOf (gapOf p.2[k])).length = (wordsOf (gapOf p.2[k])).length ∧ (wordsOf (gapOf p.2[k])).length ≤ 100 ∧ ∀ c, c ∈ countsOf (gapOf p.2[k]) → c ≤ 100 := by
      cases gapOf p.2[k] with
      | true => exact ⟨rfl, by decide +kernel, by decide +kernel⟩
      | false => exact ⟨rfl, by decide +kernel, by decide +kernel⟩
    have hsm : ∀ x, x ∈ numsOf (gapOf p.2[k]) p.2[k] → Small x := by
      by_cases g : p.2[k].2.2.2.2.1 > 1
      · have gt : gapOf p.2[k] = true := by rw [dt]; exact g
        obtain ⟨q12, q13⟩ := q7 g
        rw [gt]
        simp only [numsOf, if_true, List.mem_cons, List.not_mem_nil, or_false]
        rintro x (rfl | rfl | rfl | rfl | rfl | rfl | rfl | rfl | rfl | rfl | rfl) <;> assumption
      · have gf : gapOf p.2[k] = false := by rw [df]; exact g
        rw [gf]
        simp only [numsOf, Bool.false_eq_true, if_false, List.mem_cons, List.not_mem_nil, or_false]
        rintro x (rfl | rfl | rfl | rfl | rfl | rfl | rfl | rfl | rfl) <;> assumption
    have hk1 : spyref2_keys (gapOf p.2[k]) = some (wordsOf (gapOf p.2[k]), (countsOf (gapOf p.2[k])).map fun c : Nat => (c : Int)) := by
      rw [spyref2_keys_eq]
      cases gapOf p.2[k] with
      | true => rfl
      | false => rfl
    have hk2 : spyref2_numbers p.2[k] = some (numsOf (gapOf p.2[k]) p.2[k]) := by
      rw [spyref2_numbers_eq]
      unfold numsOf
      split <;> rfl
    have zh : ∀ x : ByteArray, (((ByteArray.mk #[114, 101, 113, 117, 101, 115, 116, 32] ++ itoaB p.2[k].1) ++ ByteArray.mk #[32, 102, 111, 114, 32]) ++ x).size = 13 + (itoaB p.2[k].1).size + x.size := by
      intro x
      rw [ba_size, ba_size, ba_size, s2, s3]
      omega
    have e1 : ByteArray.mk #[114, 101, 113, 117, 101, 115, 116, 32] = ByteArray.mk #[114, 101, 113, 117, 101, 115, 116] ++ sp := ba_ext rfl
    have e2 : ByteArray.mk #[32, 102, 111, 114, 32] = sp ++ (ByteArray.mk #[102, 111, 114] ++ sp) := ba_ext rfl
    have ehead : (((ByteArray.mk #[114, 101, 113, 117, 101, 115, 116, 32] ++ itoaB p.2[k].1) ++ ByteArray.mk #[32, 102, 111, 114, 32]) ++ nameOf p p.2[k]) ++ cat (tailOf p.2[k]) = reqText p p.2[k] := by
      unfold reqText
      rw [cat_app, e1, e2]
      simp only [cat, ba_assoc, ba_nil]
    rw [spyref2_Text.p8_eq, if_pos (by rw [dt]; omega), if_pos (by omega), if_pos (by omega), toNat_nat, getD_nat _ _ hlt, digits_ok q1, bind_some_, if_pos (by omega), if_pos (by rw [ba_size]; omega), if_pos b, if_pos c,
      if_pos (by rw [ba_size, ba_size]; omega), if_pos (by rw [zh]; omega), hk1, bind_some_, hk2, bind_some_]
    have r14 := p14_run p.2 p.2.length k p (wordsOf (gapOf p.2[k])) (countsOf (gapOf p.2[k])) hcl.1 hcl.2.1 hcl.2.2 _ 0 (s ++ (((ByteArray.mk #[114, 101, 113, 117, 101, 115, 116, 32] ++ itoaB p.2[k].1) ++ ByteArray.mk #[32, 102, 111, 114, 32]) ++ nameOf p p.2[k])) (numsOf (gapOf p.2[k]) p.2[k]) rfl (by omega) hsum hsm (by
      rw [List.drop_zero, List.drop_zero, ba_size, zh]
      show _ + (cat (tailOf p.2[k])).size < _
      omega)
    rw [List.drop_zero, List.drop_zero, show ((0 : Nat) : Int) = 0 from rfl] at r14
    rw [r14]
    show spyref2_Text.p8 (s ++ _ ++ cat (tailOf p.2[k]) ++ _) _ _ _ _ = _
    rw [ba_assoc s, ehead, ba_assoc s, wi_nat (by omega), ih (k + 1) _ (by omega) (by omega) (by rw [ba_size, ba_size, s1]; omega), List.drop_eq_getElem_cons hlt, catR, ba_assoc]
theorem ref_p3 : ∀ (u k : Nat) (s : ByteArray), p.1.length - k = u → k ≤ p.1.length → s.size ≤ 3000 * (k + 1) → spyref2_Text.p3 s p.1 p.1.length k p = some (s ++ catP (p.1.drop k) ++ catR p p.2) := by
  intro u
  induction u with
  | zero =>
    intro k s h hk hz
    have := hv.names
    have h8 := ref_p8 p hv _ 0 s rfl (by omega) (by omega)
    rw [show ((0 : Nat) : Int) = 0 from rfl, List.drop_zero] at h8
    rw [spyref2_Text.p3_eq, if_neg (by rw [dt]; omega), List.drop_eq_nil_of_le (by omega), h8, catP, ba_nil]
  | succ u ih =>
    intro k s h hk hz
    have hlt : k < p.1.length := by omega
    have hn := hv.names
    obtain ⟨a, b⟩ := hv.prop _ (List.getElem_mem hlt)
    have hle := prop_le a
    have hi := itoaB_size p.1[k].2
    have s1 : (ByteArray.mk #[112, 114, 111, 112, 111, 115, 97, 108, 32]).size = 9 := rfl
    have s2 : (ByteArray.mk #[32, 115, 104, 97, 114, 101, 32]).size = 7 := rfl
    have s3 : (ByteArray.mk #[10]).size = 1 := rfl
    rw [spyref2_Text.p3_eq, if_pos (by rw [dt]; omega), if_pos (by omega), if_pos (by omega), toNat_nat, getD_nat _ _ hlt, if_pos (by omega), if_pos (by rw [ba_size]; omega), digits_ok b, bind_some_, if_pos (by rw [ba_size, ba_size]; omega), if_pos (by rw [ba_size, ba_size, ba_size]; omega)]
    show (if s.size + (propText p.1[k]).size < 9223372036854775807 then spyref2_Text.p3 (s ++ propText p.1[k]) p.1 p.1.length (IntKind.i64.wrap (k + 1)) p else none) = _
    rw [if_pos (by omega), wi_nat (by omega), ih (k + 1) _ (by omega) (by omega) (by rw [ba_size]; omega), List.drop_eq_getElem_cons hlt, catP, ba_assoc s]
end
theorem props_true : spylaw2_props = some true := callL_some.2 ⟨200, by kernel_rfl⟩
theorem PropTexts : ∀ (x0 : (List (ByteArray × Int)) × List (Int × Int × (Int × Int × Int) × Int × Int × Int × Int × Int × Int × Int × Int)), goodT Tryd.prog (.prod (.list false 43 (.prod .str (.int .i64))) (.list false 57 (.prod (.int .i64) (.prod (.int .i64) (.prod (.prod (.int .i64) (.prod (.int .i64) (.int .i64))) (.prod (.int .i64) (.prod (.int .i64) (.prod (.int .i64) (.prod (.int .i64) (.prod (.int .i64) (.prod (.int .i64) (.prod (.int .i64) (.int .i64))))))))))))) x0 → spylaw2_PropTexts x0 = some true := by
  intro p _
  obtain ⟨e, h1, h2, _⟩ := prog_same p
  rw [spylaw2_PropTexts_eq, props_true, bind_some_, if_neg (by simp)]
  by_cases he : e = 0
  · subst he
    have hv := valid_of h2
    have ht := text_run p hv h1
    have hr := ref_p3 p hv _ 0 (ByteArray.mk #[]) rfl (by omega) (by show (0 : Nat) ≤ _; omega)
    rw [show ((0 : Nat) : Int) = 0 from rfl, List.drop_zero, nil_ba] at hr
    rw [ht, bind_some_, h2, bind_some_, if_neg (by decide), if_pos (by simp), spyref2_Text_eq, hr, bind_some_]
    simp
  · have ht : prop_Text p = some (ByteArray.mk #[], e) := by
      rw [prop_Text_eq, h1, bind_some_, if_pos (by rw [ne_t]; exact he)]
    rw [ht, bind_some_, h2, bind_some_, if_pos (by rw [ne_t]; exact he), if_pos (by simp)]
    simp

end Go.Proofs.YtgmdmfbdolbpnaaDoor.Pure
