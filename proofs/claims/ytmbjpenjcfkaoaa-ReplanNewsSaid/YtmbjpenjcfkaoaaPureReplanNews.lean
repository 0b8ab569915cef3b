/- ReplanNews: the pure statement, proved. -/
import Derived.Test.YtmbjpenjcfkaoaaEB0
import Derived.Test.YtmbjpenjcfkaoaaPl
namespace Go.Proofs.Ytmbjpenjcfkaoaa.Pure
set_option linter.unusedVariables false
set_option linter.unusedSimpArgs false
open Go Go.RowKit Go.Proofs.Ytmbjpenjcfkaoaa.Pv Go.Proofs.Ytmbjpenjcfkaoaa.Pl Go.Proofs.Ytmbjpenjcfkaoaa.EB

/-! Whole numbers: what is defined, for every argument. -/
def Def {α : Type} (o : Option α) : Prop := ∃ r, o = some r
theorem Def.mk {α : Type} (a : α) : Def (some a) := ⟨a, rfl⟩
theorem Def.bind {α β : Type} {x : Option α} {f : α → Option β} (h : Def x) (k : ∀ r, x = some r → Def (f r)) : Def (x.bind f) := by
  obtain ⟨r, h⟩ := h
  rw [h]
  exact k r h
theorem Def.ite {α : Type} {c : Prop} [Decidable c] {a b : Option α} (h1 : c → Def a) (h2 : ¬ c → Def b) : Def (if c then a else b) := by
  by_cases h : c
  · rw [if_pos h]; exact h1 h
  · rw [if_neg h]; exact h2 h
theorem Def.no {α : Type} {c : Prop} [Decidable c] {b : Option α} (h1 : ¬ c) (h2 : Def b) : Def (if c then none else b) := by rw [if_neg h1]; exact h2
theorem Def.yes {α : Type} {c : Prop} [Decidable c] {a : Option α} (h1 : c) (h2 : Def a) : Def (if c then a else none) := by rw [if_pos h1]; exact h2
theorem wu (x : Int) : IntKind.u64.wrap x = x % 18446744073709551616 := by
  simp [IntKind.wrap, IntKind.bits, IntKind.signed]
theorem wu_in {x : Int} (h0 : 0 ≤ x) (h1 : x < 18446744073709551616) : IntKind.u64.wrap x = x := IntWalk.u64_in x ⟨h0, by omega⟩
theorem wu_pos (x : Int) : 0 ≤ IntKind.u64.wrap x ∧ IntKind.u64.wrap x < 18446744073709551616 := by rw [wu]; omega
theorem wi_pos (x : Int) : -9223372036854775808 ≤ IntKind.i64.wrap x ∧ IntKind.i64.wrap x ≤ 9223372036854775807 := by rw [IntKind.wrap_i64]; omega
theorem and32 (x : Int) : bitop .and .u64 x 4294967295 = x % 4294967296 := by
  show ((BitVec.ofInt 64 x &&& BitVec.ofInt 64 4294967295).toNat : Int) = _
  rw [BitVec.toNat_and, BitVec.toNat_ofInt, BitVec.toNat_ofInt]
  have e : ((4294967295 : Int) % ((2 ^ 64 : Nat) : Int)).toNat = 2 ^ 32 - 1 := by decide
  rw [e, Nat.and_two_pow_sub_one_eq_mod]
  omega
theorem or_lt {x y : Int} : 0 ≤ bitop .or .u64 x y ∧ bitop .or .u64 x y < 18446744073709551616 := by
  unfold bitop
  have := (BitVec.ofInt IntKind.u64.bits x ||| BitVec.ofInt IntKind.u64.bits y).isLt
  simp only [IntKind.bits] at this ⊢
  omega
theorem size_def (a : Int) : Def (num_size a) := by
  rw [num_size_eq]
  exact Def.ite (fun _ => .mk _) (fun _ => .mk _)
theorem size_pos {a r : Int} (h : num_size a = some r) : 0 ≤ r ∧ r < 18446744073709551616 := by
  rw [num_size_eq] at h
  split at h <;> cases h <;> exact wu_pos _
theorem size_in {a : Int} (h0 : 0 ≤ a) (h1 : a < 18446744073709551616) : num_size a = some a := by
  rw [num_size_eq, if_neg (by rw [dt]; omega), wu_in h0 h1]
theorem gcd_p2 : ∀ (n : Nat) (x y : Int), 0 ≤ x → 0 ≤ y → y ≤ n → Def (num_Gcd.p2 x y) := by
  intro n
  induction n with
  | zero =>
    intro x y _ hy hn
    rw [num_Gcd.p2_eq, if_neg (by rw [dt]; omega)]
    exact .mk _
  | succ n ih =>
    intro x y hx hy hn
    rw [num_Gcd.p2_eq]
    refine Def.ite (fun h => ?_) (fun _ => .mk _)
    rw [dt] at h
    rw [if_neg (by omega)]
    have h1 := Int.tmod_lt_of_pos x (show 0 < y by omega)
    have h2 := Int.tmod_nonneg y hx
    exact ih _ _ hy h2 (by omega)
theorem gcd_def (a b : Int) : Def (num_Gcd a b) := by
  rw [num_Gcd_eq]
  refine (size_def a).bind fun r hr => (size_def b).bind fun r1 hr1 => ?_
  have h1 := size_pos hr
  have h2 := size_pos hr1
  exact gcd_p2 18446744073709551616 r r1 h1.1 h2.1 (by omega)
theorem fracCheck_def (x : Int × Int) : Def (frac_Check x) := by
  rw [frac_Check_eq]
  repeat' (refine Def.ite (fun _ => ?_) (fun _ => ?_))
  all_goals first | exact .mk _ | exact (gcd_def _ _).bind fun r _ => Def.ite (fun _ => .mk _) (fun _ => .mk _)
theorem fracCheck_ok {x : Int × Int} (h : frac_Check x = some 0) : -1152921504606846976 ≤ x.1 ∧ x.1 ≤ 1152921504606846976 ∧ 1 ≤ x.2 ∧ x.2 ≤ 1152921504606846976 := by
  rw [frac_Check_eq] at h
  simp only [dt, df] at h
  split at h
  · split at h
    · split at h
      · split at h
        · cases h
        · omega
      · cases h
    · cases h
  · cases h
theorem ceilDiv_def (a b : Int) : Def (num_CeilDiv a b) := by
  rw [num_CeilDiv_eq]
  refine Def.ite (fun _ => .mk _) (fun h => ?_)
  rw [dt] at h
  exact .no (by omega) (.no (by omega) (Def.ite (fun _ => .mk _) (fun _ => .mk _)))
theorem fracCeil_def (x : Int × Int) : Def (frac_Ceil x) := by
  rw [frac_Ceil_eq, frac_rounded_eq]
  refine Def.bind ?_ fun _ _ => .mk _
  exact (fracCheck_def x).bind fun r _ => Def.ite (fun _ => .mk _) (fun _ => (ceilDiv_def _ _).bind fun _ _ => .mk _)
theorem rate_def (r : Int × Int × Int × Int) : Def (scale_CheckRate r) := by
  rw [scale_CheckRate_eq]
  refine (fracCheck_def _).bind fun e _ => ?_
  repeat' (refine Def.ite (fun _ => ?_) (fun _ => ?_))
  all_goals first | exact .mk _ | exact (fracCeil_def _).bind fun r _ => Def.ite (fun _ => .mk _) (fun _ => .mk _)
theorem rate_ok {r : Int × Int × Int × Int} (h : scale_CheckRate r = some 0) : frac_Check r.2.2 = some 0 ∧ 1 ≤ r.2.2.1 ∧ -17592186044416 ≤ r.1 ∧ r.1 ≤ 17592186044416 ∧ 0 ≤ r.2.1 ∧ r.2.1 < 4294967296 := by
  rw [scale_CheckRate_eq] at h
  obtain ⟨e, he⟩ := fracCheck_def r.2.2
  rw [he, bind_some_] at h
  simp only [dt, df, ne_t] at h
  split at h
  case isFalse => cases h
  split at h
  case isFalse => cases h
  split at h
  case isFalse => cases h
  split at h
  · cases h
  split at h
  · rename_i q
    cases h
    exact absurd rfl q
  rename_i q
  have : e = 0 := Classical.byContradiction q
  subst this
  split at h
  case isFalse => cases h
  exact ⟨he, by omega, by omega, by omega, by omega, by omega⟩
abbrev Night : Type := (Int × Int) × (Int × Int × Int × Int) × Int × Int × Int × (Int × Int × Int) × (Int × Int × Int) × Int × List Int
abbrev Req : Type := Int × Int × (Int × Int × Int) × Int × Int × Int × Int × Int × Int × Int × Int
theorem in_val (n a b : Int) : spyref2_In n a b = some (decide (a ≤ n ∧ n ≤ b)) := by
  rw [spyref2_In_eq]
  simp only [dt]
  by_cases h : a ≤ n
  · rw [if_pos h]
    simp [h]
  · rw [if_neg h]
    simp [h]
theorem in_def (n a b : Int) : Def (spyref2_In n a b) := ⟨_, in_val n a b⟩
theorem dir_p2 (x y z : Int) (v : Int × Int × Int) : ∀ (u k : Nat), 3 - k = u → Def (spyref2_DirOK.p2 x y z k v) := by
  intro u
  induction u with
  | zero =>
    intro k h
    rw [spyref2_DirOK.p2_eq, if_neg (by rw [dt]; omega)]
    exact .mk _
  | succ u ih =>
    intro k h
    rw [spyref2_DirOK.p2_eq, if_pos (by rw [dt]; omega), if_pos (by omega), if_pos (by omega), wi_nat (by omega)]
    exact Def.ite (fun _ => Def.ite (fun _ => .mk _) (fun _ => ih (k + 1) (by omega))) (fun _ => .mk _)
theorem dir_def (v : Int × Int × Int) : Def (spyref2_DirOK v) := by
  rw [spyref2_DirOK_eq]
  exact dir_p2 _ _ _ _ 3 0 rfl
theorem spin_def (r : Int × Int × Int × Int) : Def (spyref2_SpinFault r) := by
  rw [spyref2_SpinFault_eq]
  refine (rate_def r).bind fun e _ => ?_
  repeat' (refine Def.ite (fun _ => ?_) (fun _ => ?_))
  all_goals exact .mk _
theorem night_p17 (l : List Int) (hl : l.length ≤ 64) : ∀ (u k : Nat), l.length - k = u → k ≤ l.length → Def (spyref2_NightFault.p17 l l.length k) := by
  intro u
  induction u with
  | zero =>
    intro k h hk
    rw [spyref2_NightFault.p17_eq, if_neg (by rw [dt]; omega)]
    exact .mk _
  | succ u ih =>
    intro k h hk
    rw [spyref2_NightFault.p17_eq, if_pos (by rw [dt]; omega), if_pos (by omega), if_pos (by omega), wi_nat (by omega)]
    exact (in_def _ _ _).bind fun _ _ => Def.ite (fun _ => .mk _) (fun _ => ih (k + 1) (by omega) (by omega))
theorem night_def (n : Night) : Def (spyref2_NightFault n) := by
  rw [spyref2_NightFault_eq, in_val, bind_some_]
  by_cases hs : 1 ≤ n.2.2.2.2.1 ∧ n.2.2.2.2.1 ≤ 64
  · rw [decide_eq_true hs, if_pos (by decide)]
    refine Def.ite (fun _ => ?_) (fun _ => .mk _)
    refine Def.ite (fun _ => .mk _) (fun _ => ?_)
    refine Def.ite (fun _ => ?_) (fun _ => .mk _)
    refine Def.ite (fun _ => .mk _) (fun _ => ?_)
    refine Def.ite (fun _ => ?_) (fun _ => .mk _)
    refine Def.ite (fun _ => ?_) (fun _ => .mk _)
    refine Def.ite (fun _ => ?_) (fun _ => .mk _)
    refine Def.ite (fun _ => .mk _) (fun _ => ?_)
    refine (spin_def _).bind fun _ _ => ?_
    refine Def.ite (fun _ => .mk _) (fun _ => ?_)
    refine (dir_def _).bind fun _ _ => ?_
    refine Def.ite (fun _ => ?_) (fun _ => .mk _)
    refine (dir_def _).bind fun _ _ => ?_
    refine Def.ite (fun _ => .mk _) (fun _ => ?_)
    refine Def.ite (fun _ => ?_) (fun _ => .mk _)
    refine Def.ite (fun _ => .mk _) (fun _ => ?_)
    refine Def.ite (fun _ => .mk _) (fun h => ?_)
    rw [ne_t] at h
    exact night_p17 _ (by omega) _ 0 rfl (by omega)
  · rw [decide_eq_false hs, if_neg (by decide)]
    exact .mk _
theorem night_slots {n : Night} (h : spyref2_NightFault n = some 0) : 1 ≤ n.2.2.2.2.1 ∧ n.2.2.2.2.1 ≤ 64 := by
  rw [spyref2_NightFault_eq, in_val, bind_some_] at h
  by_cases hs : 1 ≤ n.2.2.2.2.1 ∧ n.2.2.2.2.1 ≤ 64
  · exact hs
  · rw [decide_eq_false hs, if_neg (by decide)] at h
    cases h
theorem name_p4 (s : ByteArray) (hs : s.size ≤ 12) : ∀ (u k : Nat), s.size - k = u → k ≤ s.size → Def (spyref2_NameOK.p4 s k) := by
  intro u
  induction u with
  | zero =>
    intro k h hk
    rw [spyref2_NameOK.p4_eq, if_neg (by rw [dt]; omega)]
    exact .mk _
  | succ u ih =>
    intro k h hk
    have p8 : ∀ a b, Def (spyref2_NameOK.p8 s k a b) := by
      intro a b
      rw [spyref2_NameOK.p8_eq, wi_nat (by omega)]
      have := ih (k + 1) (by omega) (by omega)
      exact Def.ite (fun _ => Def.ite (fun _ => Def.ite (fun _ => .mk _) (fun _ => this)) (fun _ => .mk _)) (fun _ => this)
    have p7 : ∀ a, Def (spyref2_NameOK.p7 s k a) := by
      intro a
      rw [spyref2_NameOK.p7_eq]
      refine .yes (by omega) (.yes (by omega) ?_)
      refine Def.ite (fun _ => .yes (by omega) (.yes (by omega) ?_)) (fun _ => .yes (by omega) (.yes (by omega) (p8 _ _)))
      exact Def.ite (fun _ => .yes (by omega) (.yes (by omega) (p8 _ _))) (fun _ => p8 _ _)
    rw [spyref2_NameOK.p4_eq, if_pos (by rw [dt]; omega)]
    exact .yes (by omega) (.yes (by omega) (Def.ite (fun _ => .yes (by omega) (.yes (by omega) (p7 _))) (fun _ => p7 _)))
theorem name_def (s : ByteArray) : Def (spyref2_NameOK s) := by
  rw [spyref2_NameOK_eq]
  refine Def.ite (fun _ => Def.ite (fun _ => .mk _) (fun h => ?_)) (fun _ => .mk _)
  rw [dt] at h
  exact name_p4 s (by omega) _ 0 rfl (by omega)
theorem proposal_def (p : ByteArray × Int) : Def (spyref2_ProposalFault p) := by
  rw [spyref2_ProposalFault_eq]
  exact (name_def _).bind fun _ _ => Def.ite (fun _ => .mk _) (fun _ => (in_def _ _ _).bind fun _ _ => Def.ite (fun _ => .mk _) (fun _ => .mk _))
theorem request_def (r : Req) : Def (spyref2_RequestFault r) := by
  have p11 : Def (spyref2_RequestFault.p11 r) := by
    rw [spyref2_RequestFault.p11_eq]
    repeat' (refine Def.ite (fun _ => ?_) (fun _ => ?_))
    all_goals first | exact .mk _ | exact (in_def _ _ _).bind fun _ _ => Def.ite (fun _ => (in_def _ _ _).bind fun _ _ => Def.ite (fun _ => .mk _) (fun _ => .mk _)) (fun _ => .mk _)
  have p9 : Def (spyref2_RequestFault.p9 r) := by
    rw [spyref2_RequestFault.p9_eq]
    exact Def.ite (fun _ => (in_def _ _ _).bind fun _ _ => Def.ite (fun _ => (in_def _ _ _).bind fun _ _ => Def.ite (fun _ => .mk _) (fun _ => p11)) (fun _ => .mk _)) (fun _ => p11)
  rw [spyref2_RequestFault_eq]
  refine (in_def _ _ _).bind fun _ _ => Def.ite (fun _ => .mk _) (fun _ => ?_)
  refine (dir_def _).bind fun _ _ => Def.ite (fun _ => .mk _) (fun _ => ?_)
  refine (in_def _ _ _).bind fun _ _ => Def.ite (fun _ => ?_) (fun _ => .mk _)
  refine (in_def _ _ _).bind fun _ _ => Def.ite (fun _ => .mk _) (fun _ => ?_)
  exact Def.ite (fun _ => Def.ite (fun _ => Def.ite (fun _ => .mk _) (fun _ => p9)) (fun _ => .mk _)) (fun _ => p9)
theorem prog_p17 (p : List (ByteArray × Int) × List Req) (hl : p.2.length ≤ 16) : ∀ (u k : Nat), p.2.length - k = u → k ≤ p.2.length → Def (spyref2_ProgrammeFault.p17 p.2 p.2.length k p) := by
  intro u
  induction u with
  | zero =>
    intro k h hk
    rw [spyref2_ProgrammeFault.p17_eq, if_neg (by rw [dt]; omega)]
    exact .mk _
  | succ u ih =>
    intro k h hk
    have p23 : ∀ (l : List Req) (x : Req), l.length ≤ 16 → ∀ (v j : Nat), l.length - j = v → j ≤ l.length → Def (spyref2_ProgrammeFault.p23 p.2 p.2.length k l l.length j p x) := by
      intro l x hl2 v
      induction v with
      | zero =>
        intro j h2 hj
        rw [spyref2_ProgrammeFault.p23_eq, if_neg (by rw [dt]; omega), wi_nat (by omega)]
        exact (in_def _ _ _).bind fun _ _ => Def.ite (fun _ => .mk _) (fun _ => ih (k + 1) (by omega) (by omega))
      | succ v ih2 =>
        intro j h2 hj
        rw [spyref2_ProgrammeFault.p23_eq, if_pos (by rw [dt]; omega), if_pos (by omega), if_pos (by omega), wi_nat (i := j) (by omega)]
        exact Def.ite (fun _ => .mk _) (fun _ => ih2 (j + 1) (by omega) (by omega))
    rw [spyref2_ProgrammeFault.p17_eq, if_pos (by rw [dt]; omega), if_pos (by omega), if_pos (by omega)]
    refine (request_def _).bind fun _ _ => Def.ite (fun _ => .mk _) (fun _ => .yes (by omega) (.yes (by omega) ?_))
    exact p23 _ _ (by simp; omega) _ 0 rfl (by omega)
theorem prog_p4 (p : List (ByteArray × Int) × List Req) (h1 : p.1.length ≤ 6) (hl : p.2.length ≤ 16) : ∀ (u k : Nat), p.1.length - k = u → k ≤ p.1.length → Def (spyref2_ProgrammeFault.p4 p.1 p.1.length k p) := by
  intro u
  induction u with
  | zero =>
    intro k h hk
    rw [spyref2_ProgrammeFault.p4_eq, if_neg (by rw [dt]; omega)]
    exact prog_p17 p hl _ 0 rfl (by omega)
  | succ u ih =>
    intro k h hk
    have p10 : ∀ (l : List (ByteArray × Int)) (x : ByteArray × Int), l.length ≤ 16 → ∀ (v j : Nat), l.length - j = v → j ≤ l.length → Def (spyref2_ProgrammeFault.p10 p.1 p.1.length k l l.length j p x) := by
      intro l x hl2 v
      induction v with
      | zero =>
        intro j h2 hj
        rw [spyref2_ProgrammeFault.p10_eq, if_neg (by rw [dt]; omega), wi_nat (by omega)]
        exact ih (k + 1) (by omega) (by omega)
      | succ v ih2 =>
        intro j h2 hj
        rw [spyref2_ProgrammeFault.p10_eq, if_pos (by rw [dt]; omega), if_pos (by omega), if_pos (by omega), wi_nat (i := j) (by omega)]
        exact Def.ite (fun _ => .mk _) (fun _ => ih2 (j + 1) (by omega) (by omega))
    rw [spyref2_ProgrammeFault.p4_eq, if_pos (by rw [dt]; omega), if_pos (by omega), if_pos (by omega)]
    refine (proposal_def _).bind fun _ _ => Def.ite (fun _ => .mk _) (fun _ => .yes (by omega) (.yes (by omega) ?_))
    exact p10 _ _ (by simp; omega) _ 0 rfl (by omega)
theorem prog_def (p : List (ByteArray × Int) × List Req) : Def (spyref2_ProgrammeFault p) := by
  rw [spyref2_ProgrammeFault_eq]
  refine Def.ite (fun h1 => Def.ite (fun _ => .mk _) (fun h2 => ?_)) (fun _ => .mk _)
  rw [df] at h1
  rw [dt] at h2
  exact prog_p4 p (by omega) (by omega) _ 0 rfl (by omega)
theorem prog_len {p : List (ByteArray × Int) × List Req} (h : spyref2_ProgrammeFault p = some 0) : p.2.length ≤ 16 := by
  rw [spyref2_ProgrammeFault_eq] at h
  by_cases c : decide ((p.1.length : Int) > 6) = false
  · rw [if_pos c] at h
    by_cases c2 : (decide ((p.2.length : Int) > 16)) = true
    · rw [if_pos c2] at h
      cases h
    · rw [dt] at c2
      omega
  · rw [if_neg c] at h
    cases h
theorem index_run (l : List Req) (id : Int) (hl : l.length ≤ 16) : ∀ (u k : Nat), l.length - k = u → k ≤ l.length → ∃ r, slices_IndexFunc_api_Request.p2 l id l.length k = some r ∧ spyref2_IndexOf.p2 id l l.length k = some r := by
  intro u
  induction u with
  | zero =>
    intro k h hk
    rw [slices_IndexFunc_api_Request.p2_eq, spyref2_IndexOf.p2_eq, if_neg (by rw [dt]; omega), if_neg (by rw [dt]; omega)]
    exact ⟨_, rfl, rfl⟩
  | succ u ih =>
    intro k h hk
    have a : decide ((k : Int) < (l.length : Int)) = true := by rw [dt]; omega
    rw [slices_IndexFunc_api_Request.p2_eq, spyref2_IndexOf.p2_eq]
    simp only [if_pos a, if_pos (show (0 : Int) ≤ k by omega), if_pos (show (k : Int) < l.length by omega), replan_Check_c1_eq, bind_some_, wi_nat (show k < 9223372036854775807 by omega)]
    by_cases c : ((l.getD (k : Int).toNat (0, 0, (0, 0, 0), 0, 0, 0, 0, 0, 0, 0, 0)).1 == id) = true
    · rw [if_pos c, if_pos c]
      exact ⟨_, rfl, rfl⟩
    · rw [if_neg c, if_neg c]
      exact ih (k + 1) (by omega) (by omega)
theorem contains_run (l : List Int) (id : Int) (hl : l.length ≤ 16) : ∀ (u k : Nat), l.length - k = u → k ≤ l.length → ∃ r, slices_Index_int_int.p2 l id l.length k = some r ∧ (r ≥ 0 ↔ id ∈ l.drop k) := by
  intro u
  induction u with
  | zero =>
    intro k h hk
    rw [slices_Index_int_int.p2_eq, if_neg (by rw [dt]; omega), List.drop_eq_nil_of_le (by omega)]
    exact ⟨_, rfl, by simp⟩
  | succ u ih =>
    intro k h hk
    have hlt : k < l.length := by omega
    rw [slices_Index_int_int.p2_eq, if_pos (by rw [dt]; omega), if_pos (by omega), if_pos (by omega), toNat_nat, getD_nat _ _ hlt, wi_nat (by omega), List.drop_eq_getElem_cons hlt]
    by_cases c : id = l[k]
    · rw [if_pos (by rw [eq_t]; exact c)]
      exact ⟨_, rfl, by rw [← c]; simp⟩
    · rw [if_neg (by rw [eq_t]; exact c)]
      obtain ⟨r, h1, h2⟩ := ih (k + 1) (by omega) (by omega)
      exact ⟨r, h1, by rw [h2, List.mem_cons]; simp [c]⟩
theorem contains_val (l : List Int) (id : Int) (hl : l.length ≤ 16) : slices_Contains_int_int l id = some (decide (id ∈ l)) := by
  obtain ⟨r, h1, h2⟩ := contains_run l id hl _ 0 rfl (by omega)
  rw [slices_Contains_int_int_eq, slices_Index_int_int_eq]
  rw [show ((0 : Nat) : Int) = 0 from rfl] at h1
  rw [h1, bind_some_, decide_eq_decide.2 h2]
  rfl
theorem news_p13 (id : Int) (p : List (ByteArray × Int) × List Req) (x : Int × List Int × List Int) (t31 : List Int) (t32 t33 : Int) (l : List Int) (hl : l.length ≤ 16) : ∀ (u k : Nat), l.length - k = u → k ≤ l.length → spylaw2_newsFault.p13 id t31 t32 t33 l l.length k p x = if id ∈ l.drop k then some 7 else spylaw2_newsFault.p8 t31 t32 (IntKind.i64.wrap (t33 + 1)) p x := by
  intro u
  induction u with
  | zero =>
    intro k h hk
    rw [spylaw2_newsFault.p13_eq, if_neg (by rw [dt]; omega), List.drop_eq_nil_of_le (by omega), if_neg (by simp)]
  | succ u ih =>
    intro k h hk
    have hlt : k < l.length := by omega
    rw [spylaw2_newsFault.p13_eq, if_pos (by rw [dt]; omega), if_pos (by omega), if_pos (by omega), toNat_nat, getD_nat _ _ hlt, wi_nat (by omega), List.drop_eq_getElem_cons hlt]
    by_cases c : l[k] = id
    · rw [if_pos (by rw [eq_t]; exact c), if_pos (List.mem_cons.2 (.inl c.symm))]
    · rw [if_neg (by rw [eq_t]; exact c), ih (k + 1) (by omega) (by omega)]
      have : (id ∈ l[k] :: l.drop (k + 1)) ↔ (id ∈ l.drop (k + 1)) := by rw [List.mem_cons]; constructor
                                                                         · rintro (q | q)
                                                                           · exact absurd q.symm c
                                                                           · exact q
                                                                         · exact .inr
      by_cases d : id ∈ l.drop (k + 1)
      · rw [if_pos d, if_pos (this.2 d)]
      · rw [if_neg d, if_neg (fun q => d (this.1 q))]
theorem news_p8 (p : List (ByteArray × Int) × List Req) (x : Int × List Int × List Int) (hp : p.2.length ≤ 16) (hx : x.2.2.length ≤ 16) : ∀ (u k : Nat), x.2.2.length - k = u → k ≤ x.2.2.length → ∃ r, replan_Check.p8 x.2.2 x.2.2.length k p x = some r ∧ spylaw2_newsFault.p8 x.2.2 x.2.2.length k p x = some r := by
  intro u
  induction u with
  | zero =>
    intro k h hk
    rw [replan_Check.p8_eq, spylaw2_newsFault.p8_eq, if_neg (by rw [dt]; omega), if_neg (by rw [dt]; omega)]
    exact ⟨_, rfl, rfl⟩
  | succ u ih =>
    intro k h hk
    have hlt : k < x.2.2.length := by omega
    have a : decide ((k : Int) < (x.2.2.length : Int)) = true := by rw [dt]; omega
    obtain ⟨r, r1, r2⟩ := index_run p.2 (x.2.2.getD (k : Int).toNat 0) hp _ 0 rfl (by omega)
    rw [show ((0 : Nat) : Int) = 0 from rfl] at r1 r2
    have e : 7 = 7 := rfl
    rw [replan_Check.p8_eq, spylaw2_newsFault.p8_eq]
    simp only [if_pos a, if_pos (show (0 : Int) ≤ k by omega), if_pos (show (k : Int) < x.2.2.length by omega), if_pos (show (k : Int) ≤ x.2.2.length by omega), slices_ContainsFunc_api_Request_eq, slices_IndexFunc_api_Request_eq, spyref2_IndexOf_eq, r1, r2, bind_some_]
    by_cases c : r < 0
    · rw [if_pos (by rw [not_t, df]; omega), if_pos (by rw [dt]; exact c)]
      exact ⟨_, rfl, rfl⟩
    · rw [if_neg (by rw [not_t, df]; omega), if_neg (by rw [dt]; exact c)]
      have q := news_p13 (x.2.2.getD (k : Int).toNat 0) p x x.2.2 x.2.2.length k (x.2.2.take (k : Int).toNat) (by simp; omega) _ 0 rfl (by omega)
      rw [show ((0 : Nat) : Int) = 0 from rfl, List.drop_zero] at q
      rw [q, contains_val _ _ (by simp; omega), bind_some_, wi_nat (by omega)]
      by_cases d : x.2.2.getD (k : Int).toNat 0 ∈ x.2.2.take (k : Int).toNat
      · rw [if_pos d, if_pos (by rw [dt]; exact d)]
        exact ⟨_, rfl, rfl⟩
      · rw [if_neg d, if_neg (by rw [dt]; exact d)]
        exact ih (k + 1) (by omega) (by omega)
theorem replans_ok : spylaw2_replans = some true := callL_some.2 ⟨200, by kernel_rfl⟩
theorem ReplanNews : ∀ (x0 : (Int × Int) × (Int × Int × Int × Int) × Int × Int × Int × (Int × Int × Int) × (Int × Int × Int) × Int × List Int) (x1 : (List (ByteArray × Int)) × List (Int × Int × (Int × Int × Int) × Int × Int × Int × Int × Int × Int × Int × Int)) (x2 : Int × (List Int) × List Int), goodT Try.prog (.prod (.prod (.int .i64) (.int .i64)) (.prod (.prod (.int .i64) (.prod (.int .i64) (.prod (.int .i64) (.int .i64)))) (.prod (.int .i64) (.prod (.int .i64) (.prod (.int .i64) (.prod (.prod (.int .i64) (.prod (.int .i64) (.int .i64))) (.prod (.prod (.int .i64) (.prod (.int .i64) (.int .i64))) (.prod (.int .i64) (.list false 3 (.int .i64)))))))))) x0 → goodT Try.prog (.prod (.list false 162 (.prod .str (.int .i64))) (.list false 165 (.prod (.int .i64) (.prod (.int .i64) (.prod (.prod (.int .i64) (.prod (.int .i64) (.int .i64))) (.prod (.int .i64) (.prod (.int .i64) (.prod (.int .i64) (.prod (.int .i64) (.prod (.int .i64) (.prod (.int .i64) (.prod (.int .i64) (.int .i64))))))))))))) x1 → goodT Try.prog (.prod (.int .i64) (.prod (.list false 3 (.int .i64)) (.list false 3 (.int .i64)))) x2 → spylaw2_ReplanNews x0 x1 x2 = some true := by
  intro n p x hn hp hx
  obtain ⟨e, he⟩ := night_def n
  obtain ⟨f, hf⟩ := prog_def p
  rw [spylaw2_ReplanNews_eq, replans_ok, bind_some_, if_pos (by decide), he, bind_some_, hf]
  by_cases h0 : e = 0
  · rw [if_pos (by rw [ne_f]; exact h0), bind_some_]
    by_cases h1 : f = 0
    · rw [if_neg (by rw [ne_t]; exact fun q => q h1)]
      subst h0
      subst h1
      have hs := night_slots he
      have hl := prog_len hf
      have key : ∃ r, replan_Check n p x = some r ∧ spylaw2_newsFault n p x = some r := by
        rw [replan_Check_eq, spylaw2_newsFault_eq, in_val, bind_some_]
        by_cases c1 : x.1 < 0
        · rw [if_neg (by rw [df]; exact fun q => q c1), if_pos (by rw [not_t, df]; omega)]
          exact ⟨_, rfl, rfl⟩
        · rw [if_pos (by rw [df]; exact c1)]
          by_cases c2 : x.1 > n.2.2.2.2.1
          · rw [if_pos (by rw [dt]; exact c2), if_pos (by rw [not_t, df]; omega)]
            exact ⟨_, rfl, rfl⟩
          · have t : ¬ (!decide (0 ≤ x.1 ∧ x.1 ≤ n.2.2.2.2.1)) = true := by rw [not_t, df]; omega
            rw [if_neg (by rw [dt]; exact c2), if_neg t]
            by_cases c3 : ((x.2.1.length : Int) != (IntKind.i64.wrap (n.2.2.2.2.1 - x.1))) = true
            · rw [if_pos c3, if_pos c3]
              exact ⟨_, rfl, rfl⟩
            · rw [if_neg c3, if_neg c3]
              by_cases c4 : (decide ((x.2.2.length : Int) > 16)) = true
              · rw [if_pos c4, if_pos c4]
                exact ⟨_, rfl, rfl⟩
              · rw [if_neg c4, if_neg c4]
                rw [dt] at c4
                exact news_p8 p x hl (by omega) _ 0 rfl (by omega)
      obtain ⟨r, k1, k2⟩ := key
      rw [k1, bind_some_, k2, bind_some_]
      simp
    · rw [if_pos (by rw [ne_t]; exact h1)]
      rfl
  · rw [if_neg (by rw [ne_f]; exact h0)]
    rfl

end Go.Proofs.Ytmbjpenjcfkaoaa.Pure
