/- A run of the line. -/
import Derived.Test.YtbaekdcacmoniaaEA0
import Derived.Test.YtbaekdcacmoniaaEA1
import Derived.Test.YtbaekdcacmoniaaEA2
import Derived.Test.YtbaekdcacmoniaaPl
import Derived.Test.YtbaekdcacmoniaaLemBus
import Derived.Test.YtbaekdcacmoniaaLemCrc
import Derived.Test.YtbaekdcacmoniaaLemFr
import Derived.Test.YtbaekdcacmoniaaLemLine
import Derived.Test.YtbaekdcacmoniaaLemRun
import Derived.Test.YtbaekdcacmoniaaLemSim
namespace Go.Proofs.Ytbaekdcacmoniaa.Pure
set_option linter.unusedVariables false
set_option linter.unusedSimpArgs false
open Go Go.RowKit Go.Proofs.Ytbaekdcacmoniaa.Pv Go.Proofs.Ytbaekdcacmoniaa.Pl Go.Proofs.Ytbaekdcacmoniaa.EA

/-! A whole run. -/
theorem it0 {c : Prop} [Decidable c] {a : Option Int} {k : Int} (hk : k ≠ 0) (h : (if c then a else some k) = some 0) : c ∧ a = some 0 := by
  by_cases q : c
  · rw [if_pos q] at h; exact ⟨q, h⟩
  · rw [if_neg q] at h; exact absurd (Option.some.inj h) hk
theorem it1 {c : Prop} [Decidable c] {a : Option Int} {k : Int} (hk : k ≠ 0) (h : (if c then some k else a) = some 0) : ¬ c ∧ a = some 0 := by
  by_cases q : c
  · rw [if_pos q] at h; exact absurd (Option.some.inj h) hk
  · rw [if_neg q] at h; exact ⟨q, h⟩
theorem p10_ok (f : Fate_) (hl : f.2.2.2.length ≤ 3) : ∀ (u k : Nat), f.2.2.2.length - k = u → k ≤ f.2.2.2.length → link_CheckFate.p10 f.2.2.2 f.2.2.2.length k f = some 0 → ∀ j (hj : j < f.2.2.2.length), k ≤ j → 0 ≤ f.2.2.2[j] ∧ f.2.2.2[j] ∉ f.2.2.2.take j := by
  intro u
  induction u with
  | zero => intro k hu hk _ j hj h; omega
  | succ u ih =>
    intro k hu hk h j hj hkj
    have hlt : k < f.2.2.2.length := by omega
    have pp := fate_p15 f.2.2.2[k] f.2.2.2 f.2.2.2.length k f (f.2.2.2.take k) (by rw [List.length_take]; omega) _ 0 rfl (by omega)
    rw [show ((0 : Nat) : Int) = 0 from rfl, List.drop_zero, wi_nat (by omega)] at pp
    rw [link_CheckFate.p10_eq, if_pos (by rw [dt]; omega), if_pos (by omega), if_pos (by omega), toNat_nat, getD_nat _ _ hlt] at h
    obtain ⟨h1, h⟩ := it1 (by decide) h
    rw [dt] at h1
    rw [if_pos (by omega), if_pos (by omega), pp] at h
    obtain ⟨h2, h⟩ := it1 (by decide) h
    by_cases e : j = k
    · subst e
      exact ⟨by omega, h2⟩
    · exact ih (k + 1) (by omega) (by omega) h j hj (by omega)
theorem fate_facts {f : Fate_} (hq : ∀ i, i ∈ f.2.2.2 → i ≤ 9223372036854775807) (h : link_CheckFate f = some 0) : FOk f := by
  intro hf
  rw [link_CheckFate_eq, if_neg (by rw [hf]; decide)] at h
  obtain ⟨h1, h⟩ := it0 (by decide) h
  obtain ⟨h2, h⟩ := it0 (by decide) h
  obtain ⟨h3, h⟩ := it0 (by decide) h
  obtain ⟨h4, h⟩ := it1 (by decide) h
  obtain ⟨h5, h⟩ := it1 (by decide) h
  rw [df] at h1 h2 h3
  rw [dt] at h4 h5
  have ok := p10_ok f (by omega) _ 0 rfl (by omega) h
  refine ⟨by omega, by omega, by omega, fun i hi => ?_, ?_, hq⟩
  · obtain ⟨j, hj, e⟩ := List.mem_iff_getElem.1 hi
    rw [← e]
    exact (ok j hj (by omega)).1
  · rw [List.Nodup, List.pairwise_iff_getElem]
    intro i j hi hj hij e
    refine (ok j hj (by omega)).2 ?_
    rw [← e, List.mem_take_iff_getElem]
    exact ⟨i, by omega, rfl⟩
theorem p13_ok (T : List (List Fate_)) (t55 t56 : Int) (a : List Fate_) (ha : a.length ≤ 1000) : ∀ (u k : Nat), a.length - k = u → k ≤ a.length → link_Check.p13 T t55 t56 a a.length k = some 0 → (∀ j (hj : j < a.length), k ≤ j → link_CheckFate a[j] = some 0) ∧ link_Check.p10 T t55 (IntKind.i64.wrap (t56 + 1)) = some 0 := by
  intro u
  induction u with
  | zero =>
    intro k hu hk h
    rw [link_Check.p13_eq, if_neg (by rw [dt]; omega)] at h
    exact ⟨fun j hj hkj => by omega, h⟩
  | succ u ih =>
    intro k hu hk h
    have hlt : k < a.length := by omega
    obtain ⟨e, e1, _, _⟩ := fate_same a[k]
    rw [link_Check.p13_eq, if_pos (by rw [dt]; omega), if_pos (by omega), if_pos (by omega), toNat_nat, getD_nat _ _ hlt, e1, bind_some_, wi_nat (by omega)] at h
    by_cases he : e = 0
    · subst he
      rw [if_neg (by decide)] at h
      obtain ⟨q1, q2⟩ := ih (k + 1) (by omega) (by omega) h
      refine ⟨fun j hj hkj => ?_, q2⟩
      by_cases c : j = k
      · subst c
        exact e1
      · exact q1 j hj (by omega)
    · rw [if_pos (by rw [ne_t]; exact he)] at h
      exact absurd (Option.some.inj h) he
theorem p4_ok (x y : List Fate_) (l : List Cmd_) (hl : l.length ≤ 16) : ∀ (u k : Nat), l.length - k = u → k ≤ l.length → link_Check.p4 x y l l.length k = some 0 → (∀ j (hj : j < l.length), k ≤ j → 0 ≤ l[j].2.2 ∧ l[j].2.2 ≤ 2000) ∧ link_Check.p10 [x, y] 2 0 = some 0 := by
  intro u
  induction u with
  | zero =>
    intro k hu hk h
    rw [link_Check.p4_eq, if_neg (by rw [dt]; omega)] at h
    exact ⟨fun j hj hkj => by omega, h⟩
  | succ u ih =>
    intro k hu hk h
    have hlt : k < l.length := by omega
    rw [link_Check.p4_eq, if_pos (by rw [dt]; omega), if_pos (by omega), if_pos (by omega), toNat_nat, getD_nat _ _ hlt, wi_nat (by omega)] at h
    obtain ⟨_, h⟩ := it0 (by decide) h
    obtain ⟨_, h⟩ := it0 (by decide) h
    obtain ⟨h3, h⟩ := it0 (by decide) h
    obtain ⟨h4, h⟩ := it1 (by decide) h
    rw [df] at h3
    rw [dt] at h4
    obtain ⟨q1, q2⟩ := ih (k + 1) (by omega) (by omega) h
    refine ⟨fun j hj hkj => ?_, q2⟩
    by_cases c : j = k
    · subst c
      omega
    · exact q1 j hj (by omega)
theorem check_facts {l : List Cmd_} {x y : List Fate_} (h : link_Check l x y = some 0) : l.length ≤ 16 ∧ (∀ c, c ∈ l → 0 ≤ c.2.2 ∧ c.2.2 ≤ 2000) ∧ (∀ f, f ∈ x → link_CheckFate f = some 0) ∧ (∀ f, f ∈ y → link_CheckFate f = some 0) := by
  have w1 : IntKind.i64.wrap (0 + 1) = 1 := by decide +kernel
  rw [link_Check_eq] at h
  obtain ⟨h1, h⟩ := it0 (by decide) h
  obtain ⟨h2, h⟩ := it0 (by decide) h
  obtain ⟨h3, h⟩ := it1 (by decide) h
  rw [df] at h1 h2
  rw [dt] at h3
  obtain ⟨q1, q2⟩ := p4_ok x y l (by omega) _ 0 rfl (by omega) h
  rw [link_Check.p10_eq, if_pos (by decide), if_pos (by decide), if_pos (by show (0 : Int) < 2; decide)] at q2
  obtain ⟨q3, q4⟩ := p13_ok [x, y] 2 0 x (by omega) _ 0 rfl (by omega) q2
  rw [w1, link_Check.p10_eq, if_pos (by decide), if_pos (by decide), if_pos (by show (1 : Int) < 2; decide)] at q4
  obtain ⟨q5, _⟩ := p13_ok [x, y] 2 1 y (by omega) _ 0 rfl (by omega) q4
  refine ⟨by omega, fun c hc => ?_, fun f hf => ?_, fun f hf => ?_⟩
  · obtain ⟨j, hj, e⟩ := List.mem_iff_getElem.1 hc
    rw [← e]
    exact q1 j hj (by omega)
  · obtain ⟨j, hj, e⟩ := List.mem_iff_getElem.1 hf
    rw [← e]
    exact q3 j hj (by omega)
  · obtain ⟨j, hj, e⟩ := List.mem_iff_getElem.1 hf
    rw [← e]
    exact q5 j hj (by omega)
/-! What the controller sends. -/
theorem act_val (l : List Cmd_) (hl : l.length ≤ 16) (hc : ∀ c, c ∈ l → 0 ≤ c.2.2 ∧ c.2.2 ≤ 2000) (th bk : List Fate_) (hth : ∀ f, f ∈ th → FOk f) (t steps : Int) (ht : 0 ≤ t ∧ t ≤ 2000) (b8 c8 : Log_) (o0 : List (Int × Int)) (o3 o4 last : Int) (did : Bool) (now first cntT cntB : Int) (rp ar : List Int) (ex : List (Int × Int)) (toway froway : List Prc) (TO FRO : List Msg) (hTl : TO.length ≤ 1000000) (hTO : ∀ m, m ∈ TO → ToOk m) (hw : WayR (t + 1) toway TO) (h0 : 0 ≤ now) (h1 : now ≤ (l.length : Int)) (hrp : rp.length = l.length) (har : ar.length = l.length) (hcT : 0 ≤ cntT ∧ cntT ≤ 1000000) (np nf : Int) (hnp : np = 0) :
    ∃ first' cntT' toway' TO' rp', (∀ (pks : List Pk), pks.length ≤ 100000000 → link_Run.p21 t steps t pks pks.length pks.length b8 o0 o3 o4 last did l now first th cntT bk cntB rp ar ex toway froway = link_Run.p11 steps (IntKind.i64.wrap (t + 1)) b8 o0 o3 o4 last did l now first' th cntT' bk cntB rp' ar ex toway' froway) ∧
      spylaw2_played.p22 l th bk last did now first t steps t FRO.length FRO.length c8 cntT cntB TO FRO ex rp ar = spylaw2_played.p5 l th bk last did now first' steps (IntKind.i64.wrap (t + 1)) c8 cntT' cntB TO' FRO ex rp' ar ∧ WayR (t + 1) toway' TO' ∧ (∀ m, m ∈ TO' → ToOk m) ∧ 0 ≤ cntT' ∧ cntT' ≤ cntT + 1 ∧ TO'.length ≤ TO.length + 2 ∧ rp'.length = l.length := by
  by_cases c1 : now = (l.length : Int)
  · refine ⟨first, cntT, toway, TO, rp, fun pks hp => ?_, ?_, hw, hTO, hcT.1, by omega, by omega, hrp⟩
    · rw [link_Run.p21_eq, if_neg (by rw [dt]; omega), if_pos (by rw [dt]; omega)]
    · rw [spylaw2_played.p22_eq, if_neg (by rw [dt]; omega), if_pos (by rw [eq_t]; exact c1)]
  have hlt : now < (l.length : Int) := by omega
  have hcm := hc (l.getD now.toNat (0, 0, 0)) (by rw [getD_nat _ _ (show now.toNat < l.length by omega)]; exact List.getElem_mem _)
  have hwl := way_len hw
  have fo := fateAt_ok hth hcT.1
  have go : ∀ (fi : Int) (rp1 : List Int), rp1.length = l.length → ∃ cntT' toway' TO',
      (if ((Int.tmod (IntKind.i64.wrap (t - fi)) 4) != 0) = true then (link_Run.p11 steps (IntKind.i64.wrap (t + 1)) b8 o0 o3 o4 last did l now fi th cntT bk cntB rp1 ar ex toway froway) else (if 0 ≤ now then (if now < (l.length : Int) then (if (decide (t > (l.getD now.toNat (0, 0, 0)).2.2)) = true then ((link_line_send (th, toway, cntT) (0, 2, IntKind.i64.wrap (now + 1), []) t).bind fun r => link_Run.p11 steps (IntKind.i64.wrap (t + 1)) b8 o0 o3 o4 last did l now fi r.2.1 r.2.2.2 bk cntB rp1 ar ex r.2.2.1 froway) else (if 0 ≤ now then (if now < (l.length : Int) then ((link_data (l.getD now.toNat (0, 0, 0))).bind fun r1 => (link_line_send (th, toway, cntT) (0, 1, IntKind.i64.wrap (now + 1), r1) t).bind fun r2 => link_Run.p11 steps (IntKind.i64.wrap (t + 1)) b8 o0 o3 o4 last did l now fi r2.2.1 r2.2.2.2 bk cntB rp1 ar ex r2.2.2.1 froway) else none) else none)) else none) else none)) = link_Run.p11 steps (IntKind.i64.wrap (t + 1)) b8 o0 o3 o4 last did l now fi th cntT' bk cntB rp1 ar ex toway' froway ∧
      spylaw2_played.p31 l th bk last did now fi t steps t c8 cntT cntB TO FRO ex rp1 ar = spylaw2_played.p5 l th bk last did now fi steps (IntKind.i64.wrap (t + 1)) c8 cntT' cntB TO' FRO ex rp1 ar ∧ WayR (t + 1) toway' TO' ∧ (∀ m, m ∈ TO' → ToOk m) ∧ 0 ≤ cntT' ∧ cntT' ≤ cntT + 1 ∧ TO'.length ≤ TO.length + 2 := by
    intro fi rp1 hr1
    rw [spylaw2_played.p31_eq]
    by_cases d : Int.tmod (IntKind.i64.wrap (t - fi)) 4 = 0
    · rw [if_neg (show ¬ (Int.tmod (IntKind.i64.wrap (t - fi)) 4 != 0) = true by rw [ne_t]; exact fun q => q d), if_pos (show (Int.tmod (IntKind.i64.wrap (t - fi)) 4 == 0) = true by rw [eq_t]; exact d)]
      simp only [if_pos h0, if_pos hlt]
      rw [wi (x := now + 1) (by omega) (by omega)]
      generalize l.getD now.toNat (0, 0, 0) = c at hcm ⊢
      have fin : ∀ (k : Int) (data : List Int) (n : Nat), (k = 1 ∨ k = 2) → n ≤ 100 → data.length = 0 ∨ data.length = 11 → n = 5 + data.length → (∀ x, x ∈ data → 0 ≤ x ∧ x ≤ 255) → (k = 1 → link_due (0, k, now + 1, data) = some c.2.2) →
          (link_line_send (th, toway, cntT) (0, k, now + 1, data) t) = some ((), th, toway ++ newP (fateAt th cntT) t (frameL ((fateAt th cntT).2.2.2.foldl flip1 (bodyL (0, k, now + 1, data)))), cntT + 1) ∧ WayR (t + 1) (toway ++ newP (fateAt th cntT) t (frameL ((fateAt th cntT).2.2.2.foldl flip1 (bodyL (0, k, now + 1, data))))) (TO ++ newM (fateAt th cntT) t k (now + 1) c.2.2 n) ∧ (∀ m, m ∈ TO ++ newM (fateAt th cntT) t k (now + 1) c.2.2 n → ToOk m) := by
        intro k data n hk hn hdl hnl hdb hdue
        have hpok : pok (0, k, now + 1, data) := by
          unfold pok
          simp only
          omega
        have hpf : pfault (0, k, now + 1, data) = 0 := by
          unfold pfault
          rw [if_pos hpok, if_pos (by simp only; omega)]
        have car := new_car fo hpf rfl hdl hdb t c.2.2 hdue
        rw [show (bodyL (0, k, now + 1, data)).length = n by rw [body_len]; exact hnl.symm] at car
        refine ⟨send_val t ht hth ⟨hcT.1, by omega⟩ toway (by omega) _ hpf hdb, way_new hw car fun m hm => ?_, fun m hm => ?_⟩
        · rcases new_mem fo hm with q | ⟨_, q⟩
          · exact q
          · exact q.elim
        · rcases List.mem_append.1 hm with q | q
          · exact hTO m q
          · obtain ⟨e1, e2⟩ := new_kind q
            unfold ToOk
            omega
      by_cases e : t > c.2.2
      · obtain ⟨f1, f2, f3⟩ := fin 2 [] 5 (.inr rfl) (by omega) (.inl rfl) rfl (fun x h => by cases h) (fun q => by omega)
        have nl := new_len (fateAt th cntT) t 2 (now + 1) c.2.2 5
        have p36 := post36 l th bk hth last did now fi t 5 (by omega) steps t c8 cntT cntB (0, 2, now + 1, c.2.2, false) TO FRO ex rp1 ar ht ⟨hcT.1, by omega⟩ (by omega)
        rw [show ((5 : Nat) : Int) = 5 from rfl] at p36
        simp only at p36
        rw [if_pos (show decide (t > c.2.2) = true by rw [dt]; exact e), if_pos (show decide (t > c.2.2) = true by rw [dt]; exact e), f1, bind_some_, p36]
        exact ⟨cntT + 1, _, _, rfl, rfl, f2, f3, by omega, by omega, by rw [List.length_append]; omega⟩
      · obtain ⟨data, k1, k2, k3, k4⟩ := data_val c (now + 1) hcm
        obtain ⟨f1, f2, f3⟩ := fin 1 data 16 (.inl rfl) (by omega) (.inr k2) (by omega) k3 (fun _ => k4)
        have nl := new_len (fateAt th cntT) t 1 (now + 1) c.2.2 16
        have p36 := post36 l th bk hth last did now fi t 16 (by omega) steps t c8 cntT cntB (0, 1, now + 1, c.2.2, false) TO FRO ex rp1 ar ht ⟨hcT.1, by omega⟩ (by omega)
        rw [show ((16 : Nat) : Int) = 16 from rfl] at p36
        simp only at p36
        rw [if_neg (show ¬ decide (t > c.2.2) = true by rw [dt]; exact e), if_neg (show ¬ decide (t > c.2.2) = true by rw [dt]; exact e), k1, bind_some_, f1, bind_some_, p36]
        exact ⟨cntT + 1, _, _, rfl, rfl, f2, f3, by omega, by omega, by rw [List.length_append]; omega⟩
    · rw [if_pos (show (Int.tmod (IntKind.i64.wrap (t - fi)) 4 != 0) = true by rw [ne_t]; exact d), if_neg (show ¬ (Int.tmod (IntKind.i64.wrap (t - fi)) 4 == 0) = true by rw [eq_t]; exact d)]
      exact ⟨cntT, toway, TO, rfl, rfl, hw, hTO, hcT.1, by omega, by omega⟩
  by_cases c2 : rp.getD now.toNat 0 = 0
  · obtain ⟨cntT', toway', TO', g1, g2, g3, g4, g5, g6, g7⟩ := go t (rp.set now.toNat 1) (by rw [List.length_set]; exact hrp)
    refine ⟨t, cntT', toway', TO', rp.set now.toNat 1, fun pks hp => ?_, ?_, g3, g4, g5, g6, g7, by rw [List.length_set]; exact hrp⟩
    · rw [link_Run.p21_eq, if_neg (by rw [dt]; omega), if_neg (show ¬ decide (now ≥ (l.length : Int)) = true by rw [dt]; omega), if_pos h0, if_pos (show now < (rp.length : Int) by omega), if_pos (show (rp.getD now.toNat 0 == 0) = true by rw [eq_t]; exact c2), if_pos h0, if_pos (show now < (rp.length : Int) by omega)]
      exact g1
    · rw [spylaw2_played.p22_eq, if_neg (show ¬ decide ((FRO.length : Int) < (FRO.length : Int)) = true by rw [dt]; omega), if_neg (show ¬ (now == (l.length : Int)) = true by rw [eq_t]; exact c1), if_pos h0, if_pos (show now < (rp.length : Int) by omega), if_pos (show (rp.getD now.toNat 0 == 0) = true by rw [eq_t]; exact c2), if_pos h0, if_pos (show now < (rp.length : Int) by omega)]
      exact g2
  · obtain ⟨cntT', toway', TO', g1, g2, g3, g4, g5, g6, g7⟩ := go first rp hrp
    refine ⟨first, cntT', toway', TO', rp, fun pks hp => ?_, ?_, g3, g4, g5, g6, g7, hrp⟩
    · rw [link_Run.p21_eq, if_neg (by rw [dt]; omega), if_neg (show ¬ decide (now ≥ (l.length : Int)) = true by rw [dt]; omega), if_pos h0, if_pos (show now < (rp.length : Int) by omega), if_neg (show ¬ (rp.getD now.toNat 0 == 0) = true by rw [eq_t]; exact c2)]
      exact g1
    · rw [spylaw2_played.p22_eq, if_neg (show ¬ decide ((FRO.length : Int) < (FRO.length : Int)) = true by rw [dt]; omega), if_neg (show ¬ (now == (l.length : Int)) = true by rw [eq_t]; exact c1), if_pos h0, if_pos (show now < (rp.length : Int) by omega), if_neg (show ¬ (rp.getD now.toNat 0 == 0) = true by rw [eq_t]; exact c2)]
      exact g2
theorem run_all (l : List Cmd_) (hl : l.length ≤ 16) (hc : ∀ c, c ∈ l → 0 ≤ c.2.2 ∧ c.2.2 ≤ 2000) (th bk : List Fate_) (hth : ∀ f, f ∈ th → FOk f) (hbk : ∀ f, f ∈ bk → FOk f) (N : Nat) (hN : N ≤ 2000) (b8 c8 : Log_) (o0 : List (Int × Int)) (o3 o4 : Int) :
    ∀ (u t : Nat) (last : Int) (did : Bool) (now first cntT cntB : Int) (rp ar : List Int) (ex : List (Int × Int)) (toway froway : List Prc) (TO FRO : List Msg), t + u = N → WayR t toway TO → WayR t froway FRO → (∀ m, m ∈ TO → ToOk m) → (∀ m, m ∈ FRO → FroOk m) → 0 ≤ now → now ≤ (l.length : Int) → rp.length = l.length → ar.length = l.length → 0 ≤ cntT → cntT ≤ (t : Int) → 0 ≤ cntB → cntB ≤ 4000 * (t : Int) → TO.length ≤ 2 * t → FRO.length ≤ 8000 * t → ex.length ≤ 4000 * t →
    ∃ EX RP AR S H, link_Run.p11 N t b8 o0 o3 o4 last did l now first th cntT bk cntB rp ar ex toway froway = some ((EX, RP, AR, S, H), 0) ∧ spylaw2_played.p5 l th bk last did now first N t c8 cntT cntB TO FRO ex rp ar = some (EX, RP, AR, S, H) ∧ EX.length ≤ 10000000 ∧ RP.length ≤ 16 ∧ AR.length ≤ 16 := by
  intro u
  induction u with
  | zero =>
    intro t last did now first cntT cntB rp ar ex toway froway TO FRO hu w1 w2 hTO hF n0 n1 hrp har a0 a1 b0 b1 l1 l2 l3
    refine ⟨ex, rp, ar, cntT, cntB, ?_, ?_, by omega, by omega, by omega⟩
    · rw [link_Run.p11_eq, if_neg (by rw [dt]; omega)]
    · rw [spylaw2_played.p5_eq, if_neg (by rw [dt]; omega)]
  | succ u ih =>
    intro t last did now first cntT cntB rp ar ex toway froway TO FRO hu w1 w2 hTO hF n0 n1 hrp har a0 a1 b0 b1 l1 l2 l3
    have hw1 := way_len w1
    obtain ⟨pks, toway1, k1, k2, k3⟩ := take_val t th cntT w1 (by omega)
    have hpl := k3.len
    have hfl := List.length_filter_le (atT t) TO
    obtain ⟨last1, did1, cntB1, froway1, FRO1, ex1, q1, q2, q3, q4, q5, q6, q7, q8⟩ := hear1 l th bk hbk t N (by omega) b8 c8 o0 o3 o4 now first cntT cntT rp ar toway1 TO hTO pks (by omega) (4000 * (t + 1)) (8000 * (t + 1)) (4000 * (t + 1)) (by omega) (by omega) (by omega) (by omega) _ 0 0 last did cntB froway FRO ex rfl (by omega) (by omega) (by rw [List.drop_zero, List.drop_zero]; exact k3) w2 hF b0 (by omega) (by omega) (by omega)
    have hw2 := way_len q3
    obtain ⟨pks2, froway2, j1, j2, j3⟩ := take_val t bk cntB1 q3 (by omega)
    have hpl2 := j3.len
    have hfl2 := List.length_filter_le (atT t) FRO1
    obtain ⟨now1, rp1, ar1, r1, r2, r3, r4, r5, r6⟩ := hear2 l hl th bk t N b8 c8 o0 o3 o4 last1 did1 first cntT cntB1 ex1 toway1 froway2 TO FRO1 (by omega) q4 pks2 (by omega) _ 0 0 now rp ar rfl (by omega) (by omega) (by rw [List.drop_zero, List.drop_zero]; exact j3) n0 n1 hrp har
    obtain ⟨first1, cntT1, toway2, TO1, rp2, s1, s2, s3, s4, s5, s6, s7, s8⟩ := act_val l hl hc th bk hth t N (by omega) b8 c8 o0 o3 o4 last1 did1 now1 first cntT cntB1 rp1 ar1 ex1 toway1 froway2 TO FRO1 (by omega) hTO k2 r3 r4 r5 r6 ⟨a0, by omega⟩ 0 0 rfl
    obtain ⟨EX, RP, AR, S, H, y1, y2, y3⟩ := ih (t + 1) last1 did1 now1 first1 cntT1 cntB1 rp2 ar1 ex1 toway2 froway2 TO1 FRO1 (by omega) (by have := s3; rwa [show ((t : Int) + 1) = ((t + 1 : Nat) : Int) from rfl] at this) (by have := j2; rwa [show ((t : Int) + 1) = ((t + 1 : Nat) : Int) from rfl] at this) s4 q4 r3 r4 s8 r6 s5 (by omega) q5 (by omega) (by omega) (by omega) (by omega)
    refine ⟨EX, RP, AR, S, H, ?_, ?_, y3⟩
    · rw [link_Run.p11_eq, if_pos (by rw [dt]; omega), k1, bind_some_]
      simp only
      rw [show ((0 : Nat) : Int) = 0 from rfl] at q1 r1
      rw [q1, link_Run.p14_eq, if_neg (show ¬ decide ((pks.length : Int) < (pks.length : Int)) = true by rw [dt]; omega), j1, bind_some_]
      simp only
      rw [r1, s1 pks2 (by omega), wi_nat (by omega)]
      exact y1
    · rw [spylaw2_played.p5_eq, if_pos (by rw [dt]; omega)]
      rw [show ((0 : Nat) : Int) = 0 from rfl] at q2 r2
      rw [q2, spylaw2_played.p8_eq, if_neg (show ¬ decide ((TO.length : Int) < (TO.length : Int)) = true by rw [dt]; omega), r2, s2, wi_nat (by omega)]
      exact y2

end Go.Proofs.Ytbaekdcacmoniaa.Pure
