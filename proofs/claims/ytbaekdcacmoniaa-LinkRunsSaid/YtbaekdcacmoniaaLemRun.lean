/- Posts and data. -/
import Derived.Test.YtbaekdcacmoniaaEA0
import Derived.Test.YtbaekdcacmoniaaEA1
import Derived.Test.YtbaekdcacmoniaaEA2
import Derived.Test.YtbaekdcacmoniaaPl
import Derived.Test.YtbaekdcacmoniaaLemBus
import Derived.Test.YtbaekdcacmoniaaLemCrc
import Derived.Test.YtbaekdcacmoniaaLemFr
import Derived.Test.YtbaekdcacmoniaaLemLine
namespace Go.Proofs.Ytbaekdcacmoniaa.Pure
set_option linter.unusedVariables false
set_option linter.unusedSimpArgs false
open Go Go.RowKit Go.Proofs.Ytbaekdcacmoniaa.Pv Go.Proofs.Ytbaekdcacmoniaa.Pl Go.Proofs.Ytbaekdcacmoniaa.EA

/-! A run of the line against the messages of the statement. -/
abbrev Cmd_ : Type := Int × Int × Int
theorem spoils_val (f : Fate_) (h : f.2.2.2.length ≤ 3) (n : Nat) (hn : n ≤ 100) : spylaw2_spoils f (n : Int) = some (spoilt f n) := by
  have key : ∀ (s : List Int), s.length ≤ 3 → ∀ (u k : Nat), s.length - k = u → k ≤ s.length → ∃ r, slices_IndexFunc_int_int.p2 s n s.length k = some r ∧ (decide (r ≥ 0) = (s.drop k).any fun i => decide (i < 8 * (n : Int))) := by
    intro s hs u
    induction u with
    | zero =>
      intro k hu hk
      rw [slices_IndexFunc_int_int.p2_eq, if_neg (by rw [dt]; omega), List.drop_eq_nil_of_le (by omega)]
      exact ⟨_, rfl, rfl⟩
    | succ u ih =>
      intro k hu hk
      have hlt : k < s.length := by omega
      rw [slices_IndexFunc_int_int.p2_eq, if_pos (by rw [dt]; omega), if_pos (by omega), if_pos (by omega), toNat_nat, getD_nat _ _ hlt, spylaw2_spoils_c1_eq, bind_some_, wi (x := 8 * (n : Int)) (by omega) (by omega), wi_nat (by omega)]
      by_cases c : s[k] < 8 * (n : Int)
      · rw [if_pos (by rw [dt]; exact c)]
        refine ⟨_, rfl, ?_⟩
        rw [List.drop_eq_getElem_cons hlt, List.any_cons]
        simp [c]
      · rw [if_neg (by rw [dt]; exact c)]
        obtain ⟨r, r1, r2⟩ := ih (k + 1) (by omega) (by omega)
        refine ⟨r, r1, ?_⟩
        rw [r2, List.drop_eq_getElem_cons hlt, List.any_cons]
        simp [c]
  obtain ⟨r, r1, r2⟩ := key f.2.2.2 h _ 0 rfl (by omega)
  rw [show ((0 : Nat) : Int) = 0 from rfl] at r1
  rw [spylaw2_spoils_eq, slices_ContainsFunc_int_int_eq, slices_IndexFunc_int_int_eq, r1, bind_some_, bind_some_, r2, List.drop_zero]
  rfl
theorem post18 (l : List Cmd_) (th bk : List Fate_) (hb : ∀ f, f ∈ bk → FOk f) (last : Int) (did : Bool) (now first t kind t31 t32 t36 t37 : Int) (b8 : List (Int × Int) × List Int × List Int × Int × Int) (y3 y4 : Int) (m : Msg) (TO FRO : List Msg) (ex : List (Int × Int)) (rp ar : List Int) (ht : 0 ≤ t ∧ t ≤ 2000) (h4 : 0 ≤ y4 ∧ y4 ≤ 100000000) (hF : FRO.length ≤ 100000000) :
    spylaw2_played.p18 l th bk last did now first t kind t31 t32 t36 t37 b8 y3 y4 m TO FRO ex rp ar = spylaw2_played.p8 l th bk last did now first t t31 t32 t36 (IntKind.i64.wrap (t37 + 1)) b8 y3 (y4 + 1) TO (FRO ++ newM (fateAt bk y4) t kind m.2.2.1 0 5) ex rp ar := by
  have fo := fateAt_ok hb h4.1
  rw [spylaw2_played.p18_eq, wi (x := y4 + 1) (by omega) (by omega)]
  unfold fateAt at fo ⊢
  by_cases c : y4 < (bk.length : Int)
  · rw [if_pos c] at fo ⊢
    rw [if_pos (by rw [dt]; exact c), if_pos h4.1, if_pos c]
    generalize bk.getD y4.toNat (false, 0, 0, []) = f at fo ⊢
    unfold newM
    by_cases c1 : f.1 = true
    · rw [if_pos c1, if_pos c1, List.append_nil]
    · obtain ⟨f1, f2, f3, _⟩ := fo (by simpa using c1)
      have sp := spoils_val f f3 5 (by omega)
      rw [show ((5 : Nat) : Int) = 5 from rfl] at sp
      rw [if_neg c1, if_neg c1, sp, bind_some_, if_pos (by omega), wi (x := t + f.2.1) (by omega) (by omega), wi (x := t + f.2.2.1) (by omega) (by omega)]
      by_cases c2 : f.2.2.1 > 0
      · rw [if_pos (by rw [dt]; exact c2), if_pos (by rw [List.length_append]; simp; omega), if_pos c2, List.append_assoc]
        rfl
      · rw [if_neg (by rw [dt]; exact c2), if_neg c2]
  · have fc : (if y4 < (bk.length : Int) then bk.getD y4.toNat (false, 0, 0, []) else (false, 1, 0, [])) = ((false, 1, 0, []) : Fate_) := if_neg c
    have sp := spoils_val (false, 1, 0, []) (by decide) 5 (by omega)
    rw [show ((5 : Nat) : Int) = 5 from rfl] at sp
    rw [fc, if_neg (by rw [dt]; exact c), sp, bind_some_, if_pos (by omega), wi (x := t + 1) (by omega) (by omega)]
    rfl
theorem post36 (l : List Cmd_) (th bk : List Fate_) (hb : ∀ f, f ∈ th → FOk f) (last : Int) (did : Bool) (now first t : Int) (n : Nat) (hn : n ≤ 100) (t31 t32 : Int) (b8 : List (Int × Int) × List Int × List Int × Int × Int) (y3 y4 : Int) (m : Msg) (TO FRO : List Msg) (ex : List (Int × Int)) (rp ar : List Int) (ht : 0 ≤ t ∧ t ≤ 2000) (h4 : 0 ≤ y3 ∧ y3 ≤ 100000000) (hF : TO.length ≤ 100000000) :
    spylaw2_played.p36 l th bk last did now first t n t31 t32 b8 y3 y4 m TO FRO ex rp ar = spylaw2_played.p5 l th bk last did now first t31 (IntKind.i64.wrap (t32 + 1)) b8 (y3 + 1) y4 (TO ++ newM (fateAt th y3) t m.2.1 m.2.2.1 m.2.2.2.1 n) FRO ex rp ar := by
  have fo := fateAt_ok hb h4.1
  rw [spylaw2_played.p36_eq, wi (x := y3 + 1) (by omega) (by omega)]
  unfold fateAt at fo ⊢
  by_cases c : y3 < (th.length : Int)
  · rw [if_pos c] at fo ⊢
    rw [if_pos (by rw [dt]; exact c), if_pos h4.1, if_pos c]
    generalize th.getD y3.toNat (false, 0, 0, []) = f at fo ⊢
    unfold newM
    by_cases c1 : f.1 = true
    · rw [if_pos c1, if_pos c1, List.append_nil]
    · obtain ⟨f1, f2, f3, _⟩ := fo (by simpa using c1)
      rw [if_neg c1, if_neg c1, spoils_val f f3 n hn, bind_some_, if_pos (by omega), wi (x := t + f.2.1) (by omega) (by omega), wi (x := t + f.2.2.1) (by omega) (by omega)]
      by_cases c2 : f.2.2.1 > 0
      · rw [if_pos (by rw [dt]; exact c2), if_pos (by rw [List.length_append]; simp; omega), if_pos c2, List.append_assoc]
        rfl
      · rw [if_neg (by rw [dt]; exact c2), if_neg c2]
  · have fc : (if y3 < (th.length : Int) then th.getD y3.toNat (false, 0, 0, []) else (false, 1, 0, [])) = ((false, 1, 0, []) : Fate_) := if_neg c
    rw [fc, if_neg (by rw [dt]; exact c), spoils_val (false, 1, 0, []) (by decide) n hn, bind_some_, if_pos (by omega), wi (x := t + 1) (by omega) (by omega)]
    rfl
theorem new_len (f : Fate_) (t k s d : Int) (n : Nat) : (newM f t k s d n).length ≤ 2 := by
  unfold newM
  split
  · exact Nat.zero_le _
  · split
    · exact Nat.le_refl _
    · exact Nat.le_succ _
theorem new_mem {f : Fate_} {t k s d : Int} {n : Nat} (hf : FOk f) {m : Msg} (h : m ∈ newM f t k s d n) : t + 1 ≤ m.1 ∨ (m.1 ≤ t ∧ False) := by
  unfold newM at h
  split at h
  · cases h
  · rename_i c
    obtain ⟨f1, f2, _⟩ := hf (by simpa using c)
    left
    rcases List.mem_cons.1 h with rfl | q
    · simp only
      omega
    · split at q
      · rw [List.mem_singleton.1 q]
        simp only
        omega
      · cases q
theorem new_kind {f : Fate_} {t k s d : Int} {n : Nat} {m : Msg} (h : m ∈ newM f t k s d n) : m.2.1 = k ∧ m.2.2.1 = s := by
  unfold newM at h
  split at h
  · cases h
  · rcases List.mem_cons.1 h with rfl | q
    · exact ⟨rfl, rfl⟩
    · split at q
      · rw [List.mem_singleton.1 q]
        exact ⟨rfl, rfl⟩
      · cases q
theorem new_car {f : Fate_} (hf : FOk f) {p : Pk} (hp : pfault p = 0) (ha : p.1 = 0) (hn : p.2.2.2.length = 0 ∨ p.2.2.2.length = 11) (hd : ∀ x, x ∈ p.2.2.2 → 0 ≤ x ∧ x ≤ 255) (t d : Int) (hdue : p.2.1 = 1 → link_due p = some d) :
    All2 Car (newP f t (frameL (f.2.2.2.foldl flip1 (bodyL p)))) (newM f t p.2.1 p.2.2.1 d (bodyL p).length) := by
  have hpk := (fault_0 hp).1
  have hl := body_len p
  have hb := body_bytes hpk hd
  unfold newP newM
  by_cases c : f.1 = true
  · rw [if_pos c, if_pos c]
    exact .nil
  · rw [if_neg c, if_neg c]
    obtain ⟨f1, f2, f3, f4, f5, f6⟩ := hf (by simpa using c)
    have car : ∀ a : Int, Car (a, frameL (f.2.2.2.foldl flip1 (bodyL p))) (a, p.2.1, p.2.2.1, d, spoilt f (bodyL p).length) := by
      intro a
      have fl := flips_len f.2.2.2 (bodyL p)
      refine ⟨rfl, f.2.2.2.foldl flip1 (bodyL p), rfl, (fun e => by rw [e] at fl; simp at fl; omega), flips_bytes _ _ hb, by omega, fun h => ?_, fun h => ?_⟩
      · refine parse_flips hpk hn hd f.2.2.2 f3 f4 f5 ?_
        simp only at h
        unfold spoilt at h
        obtain ⟨i, h1, h2⟩ := List.any_eq_true.1 h
        exact ⟨i, h1, by simpa using h2⟩
      · simp only at h
        unfold spoilt at h
        have hno : ∀ i, i ∈ f.2.2.2 → ¬ i < 8 * ((bodyL p).length : Int) := by
          intro i hi q
          have := List.any_eq_false.1 h i hi
          exact this (by simpa using q)
        refine ⟨p.2.2.2, ?_, fun hk => ?_⟩
        · rw [flips_none _ _ hno, parse_body hpk (by omega) hd]
          obtain ⟨a0, k0, s0, d0⟩ := p
          simp only at ha
          subst ha
          rfl
        · have := hdue hk
          obtain ⟨a0, k0, s0, d0⟩ := p
          simp only at ha
          subst ha
          exact this
    by_cases c2 : f.2.2.1 > 0
    · rw [if_pos c2, if_pos c2]
      exact .cons (car _) (.cons (car _) .nil)
    · rw [if_neg c2, if_neg c2]
      exact .cons (car _) .nil
theorem way_new {t : Int} {way : List Prc} {ms : List Msg} (h : WayR t way ms) {np : List Prc} {nm : List Msg} (hn : All2 Car np nm) (hm : ∀ m, m ∈ nm → t ≤ m.1) : WayR t (way ++ np) (ms ++ nm) := by
  unfold WayR
  have e : nm.filter (fun m => decide (t ≤ m.1)) = nm := List.filter_eq_self.2 (fun m q => by simpa using hm m q)
  rw [List.filter_append, e]
  exact All2.app h hn
theorem way_len {t : Int} {way : List Prc} {ms : List Msg} (h : WayR t way ms) : way.length ≤ ms.length := by
  rw [All2.len h]
  exact List.length_filter_le _ _
/-! The data of a command. -/
theorem data_p3 (c : Cmd_) : ∀ (j : Nat) (acc : List Int), j ≤ 8 → acc.length + j ≤ 100 → ∃ r, link_data.p3 (8 * (j : Int) - 8) c acc = some (acc ++ r) ∧ r.length = j ∧ ∀ x, x ∈ r → 0 ≤ x ∧ x ≤ 255 := by
  intro j
  induction j with
  | zero =>
    intro acc _ _
    rw [link_data.p3_eq, if_neg (by rw [dt]; omega)]
    exact ⟨[], by rw [List.append_nil], rfl, fun x h => by cases h⟩
  | succ j ih =>
    intro acc hj hl
    have e : IntKind.i64.wrap (8 * ((j + 1 : Nat) : Int) - 8 - 8) = 8 * (j : Int) - 8 := by
      rw [wi (by omega) (by omega)]
      omega
    rw [link_data.p3_eq, if_pos (show decide (8 * ((j + 1 : Nat) : Int) - 8 ≥ 0) = true by rw [dt]; omega), if_neg (show ¬ 8 * ((j + 1 : Nat) : Int) - 8 < 0 by omega), if_pos (show (acc.length + 1) * 1 ≤ 140737488355328 by omega), e]
    obtain ⟨r, r1, r2, r3⟩ := ih (acc ++ [IntKind.u8.wrap (Int.fdiv (IntKind.u64.wrap c.2.1) (2 ^ min (8 * ((j + 1 : Nat) : Int) - 8).toNat 64))]) (by omega) (by rw [List.length_append]; simp; omega)
    rw [r1, List.append_assoc]
    refine ⟨_, rfl, by rw [List.length_append, r2]; simp; omega, fun x hx => ?_⟩
    rcases List.mem_append.1 hx with q | q
    · rw [List.mem_singleton.1 q, IntKind.wrap_u8]
      omega
    · exact r3 x q
theorem data_val (c : Cmd_) (s : Int) (h2 : 0 ≤ c.2.2 ∧ c.2.2 ≤ 2000) : ∃ d, link_data c = some d ∧ d.length = 11 ∧ (∀ x, x ∈ d → 0 ≤ x ∧ x ≤ 255) ∧ link_due (0, 1, s, d) = some c.2.2 := by
  obtain ⟨r, r1, r2, r3⟩ := data_p3 c 8 [IntKind.u8.wrap c.1, IntKind.u8.wrap (Int.fdiv c.2.2 256), IntKind.u8.wrap c.2.2] (by omega) (by simp)
  rw [show 8 * ((8 : Nat) : Int) - 8 = 56 from rfl] at r1
  refine ⟨_, by rw [link_data_eq]; exact r1, by rw [List.length_append, r2]; rfl, fun x hx => ?_, ?_⟩
  · rcases List.mem_append.1 hx with q | q
    · simp at q
      rcases q with rfl | rfl | rfl <;> (rw [IntKind.wrap_u8]; omega)
    · exact r3 x q
  · have g1 : ([IntKind.u8.wrap c.1, IntKind.u8.wrap (Int.fdiv c.2.2 256), IntKind.u8.wrap c.2.2] ++ r).getD 1 0 = c.2.2 / 256 := hi8 c.2.2 h2.1 (by omega)
    have g2 : ([IntKind.u8.wrap c.1, IntKind.u8.wrap (Int.fdiv c.2.2 256), IntKind.u8.wrap c.2.2] ++ r).getD 2 0 = c.2.2 % 256 := lo8 c.2.2
    rw [link_due_eq]
    simp only
    rw [if_neg (by rw [dt, List.length_append, r2]; simp), if_pos (by rw [List.length_append, r2]; simp), if_pos (by rw [List.length_append, r2]; simp), g1, g2, or256 _ _ (by omega) (by omega)]
    congr 1
    omega

end Go.Proofs.Ytbaekdcacmoniaa.Pure
