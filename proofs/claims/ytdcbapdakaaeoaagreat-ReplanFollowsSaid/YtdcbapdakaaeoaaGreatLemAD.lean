/- Choices of a desk. -/
import Derived.Test.YtdcbapdakaaeoaaGreatEA0
import Derived.Test.YtdcbapdakaaeoaaGreatEA1
import Derived.Test.YtdcbapdakaaeoaaGreatEA2
import Derived.Test.YtdcbapdakaaeoaaGreatEA3
import Derived.Test.YtdcbapdakaaeoaaGreatEA4
import Derived.Test.YtdcbapdakaaeoaaGreatEA5
import Derived.Test.YtdcbapdakaaeoaaGreatEA6
import Derived.Test.YtdcbapdakaaeoaaGreatEA7
import Derived.Test.YtdcbapdakaaeoaaGreatPl
import Derived.Test.YtdcbapdakaaeoaaGreatLemAA
import Derived.Test.YtdcbapdakaaeoaaGreatLemAB
import Derived.Test.YtdcbapdakaaeoaaGreatLemAC
import Derived.Test.YtdcbapdakaaeoaaGreatLemAG
namespace Go.Proofs.YtdcbapdakaaeoaaGreat.Pure
set_option linter.unusedVariables false
set_option linter.unusedSimpArgs false
open Go Go.RowKit Go.Proofs.YtdcbapdakaaeoaaGreat.Pv Go.Proofs.YtdcbapdakaaeoaaGreat.Pl Go.Proofs.YtdcbapdakaaeoaaGreat.EA

theorem used_p5 (p : Progr) (ok : ProgOk p) (s : State_) (hs : s.2.2.length = p.2.length) : ∀ (u k : Nat) (b : List Int), p.2.length - k = u → k ≤ p.2.length → b.length = p.1.length → ∃ c : List Int, c.length = p.1.length ∧ plan_Used.p5 p.2 p.2.length k s b = some c ∧ ∀ j : Nat, (h : j < c.length) → spyref2_Table_UsedBy.p3 j (b.getD j 0) p.2 p.2.length k s = some c[j] := by
  have hr := ok.reqs
  intro u
  induction u with
  | zero =>
    intro k b hu hk hb
    refine ⟨b, hb, by rw [plan_Used.p5_eq, if_neg (by rw [dt]; omega)], fun j h => ?_⟩
    rw [spyref2_Table_UsedBy.p3_eq, if_neg (by rw [dt]; omega), getD_nat _ _ h]
  | succ u ih =>
    intro k b hu hk hb
    have hlt : k < p.2.length := by omega
    obtain ⟨_, g0, g1, _⟩ := ok.at_ k hlt
    have up : ∀ j : Nat, ∀ x : Int, spyref2_Table_UsedBy.p3 j x p.2 p.2.length k s = if p.2[k].2.1 = (j : Int) then spyref2_Table_UsedBy.p3 j (IntKind.i64.wrap (x + (IntKind.i64.wrap (p.2[k].2.2.2.1 * ((s.2.2.getD k []).length : Int))))) p.2 p.2.length ((k + 1 : Nat) : Int) s else spyref2_Table_UsedBy.p3 j x p.2 p.2.length ((k + 1 : Nat) : Int) s := by
      intro j x
      rw [spyref2_Table_UsedBy.p3_eq]
      simp only [if_pos (show decide ((k : Int) < (p.2.length : Int)) = true by rw [dt]; omega), if_pos (show (0 : Int) ≤ k by omega), if_pos (show (k : Int) < p.2.length by omega), if_pos (show (k : Int) < s.2.2.length by omega), toNat_nat, getD_nat _ _ hlt, wi_nat (show k < 9223372036854775807 by omega), eq_t]
    obtain ⟨c, c1, c2, c3⟩ := ih (k + 1) (b.set p.2[k].2.1.toNat (IntKind.i64.wrap ((b.getD p.2[k].2.1.toNat 0) + (IntKind.i64.wrap (p.2[k].2.2.2.1 * ((s.2.2.getD k []).length : Int)))))) (by omega) (by omega) (by simp [hb])
    refine ⟨c, c1, ?_, fun j h => ?_⟩
    · rw [plan_Used.p5_eq]
      simp only [if_pos (show decide ((k : Int) < (p.2.length : Int)) = true by rw [dt]; omega), if_pos (show (0 : Int) ≤ k by omega), if_pos (show (k : Int) < p.2.length by omega), if_pos (show (k : Int) < s.2.2.length by omega), toNat_nat, getD_nat _ _ hlt, wi_nat (show k < 9223372036854775807 by omega), if_pos g0, if_pos (show p.2[k].2.1 < (b.length : Int) by omega)]
      exact c2
    · have := c3 j h
      rw [up]
      by_cases e : p.2[k].2.1 = (j : Int)
      · rw [if_pos e]
        rw [e, toNat_nat] at this
        have es : (b.set j (IntKind.i64.wrap ((b.getD j 0) + (IntKind.i64.wrap (p.2[k].2.2.2.1 * ((s.2.2.getD k []).length : Int)))))).getD j 0 = IntKind.i64.wrap ((b.getD j 0) + (IntKind.i64.wrap (p.2[k].2.2.2.1 * ((s.2.2.getD k []).length : Int)))) := by
          rw [getD_nat _ _ (by simp; omega)]
          simp
        rw [es] at this
        exact this
      · rw [if_neg e]
        have es : ∀ v : Int, (b.set p.2[k].2.1.toNat v).getD j 0 = b.getD j 0 := by
          intro v
          rw [getD_nat _ _ (by simp; omega), getD_nat _ _ (by omega), List.getElem_set_ne (by omega)]
        rw [es] at this
        exact this
/-! Candidates. -/
abbrev Cand_ : Type := Int × Int × (Int × Int) × Int × Int
theorem open_look {n : Night} {m : Mount_} {p : Progr} {cl : List (List Int)} {aim : List (List (Int × Int))} (dk : DeskOk n p cl aim) (b c : Cand_) (q : Int × Int) (r : Req) (i : Nat) (hi : i < p.2.length) (a : Nat) (L : Nat) (hL : r.2.2.2.1 = (L : Int)) (hs : (a : Int) + L ≤ n.2.2.2.2.1) (h64 : n.2.2.2.2.1 ≤ 64) : ∀ (u k : Nat), L - k = u → k ≤ L →
    (spyref2_Table_AllOpen.p2 i a L k (n, m, p, cl) = some false ∧ plan_Desk_look.p15 i a ((a + k : Nat) : Int) (n, m, p, cl, aim) b r q c = some (c, 5)) ∨
    (spyref2_Table_AllOpen.p2 i a L k (n, m, p, cl) = some true ∧ plan_Desk_look.p15 i a ((a + k : Nat) : Int) (n, m, p, cl, aim) b r q c = plan_Desk_look.p15 i a ((a + L : Nat) : Int) (n, m, p, cl, aim) b r q c) := by
  have hc := (dk.c i hi).2
  have hlc := dk.lc
  intro u
  induction u with
  | zero =>
    intro k hu hk
    obtain rfl : k = L := by omega
    refine .inr ⟨?_, rfl⟩
    rw [spyref2_Table_AllOpen.p2_eq, if_neg (by rw [dt]; omega)]
  | succ u ih =>
    intro k hu hk
    have e1 : spyref2_Table_AllOpen.p2 i a L k (n, m, p, cl) = if ((cl.getD i []).getD (a + k) 0 != 0) = true then some false else spyref2_Table_AllOpen.p2 i a L ((k + 1 : Nat) : Int) (n, m, p, cl) := by
      rw [spyref2_Table_AllOpen.p2_eq]
      simp only
      rw [if_pos (by rw [dt]; omega), if_pos (by omega), if_pos (by omega), wi (x := (a : Int) + k) (by omega) (by omega), if_pos (by omega), toNat_nat, if_pos (by omega), wi_nat (by omega), show ((a : Int) + (k : Int)).toNat = a + k by omega]
    have e2 : plan_Desk_look.p15 i a ((a + k : Nat) : Int) (n, m, p, cl, aim) b r q c = if ((cl.getD i []).getD (a + k) 0 != 0) = true then some (c, 5) else plan_Desk_look.p15 i a ((a + (k + 1) : Nat) : Int) (n, m, p, cl, aim) b r q c := by
      rw [plan_Desk_look.p15_eq]
      simp only
      rw [hL, wi (x := (a : Int) + L) (by omega) (by omega), if_pos (by rw [dt]; omega), if_pos (by omega), if_pos (by omega), if_pos (by omega), toNat_nat, if_pos (by omega), toNat_nat, wi_nat (by omega)]
      rfl
    rw [e1, e2]
    by_cases z : ((cl.getD i []).getD (a + k) 0 != 0) = true
    · rw [if_pos z, if_pos z]
      exact .inl ⟨rfl, rfl⟩
    · rw [if_neg z, if_neg z]
      exact ih (k + 1) (by omega) (by omega)
/-- The first slot at which the mount can be there. -/
theorem reach_run {n : Night} {m : Mount_} {p : Progr} {cl : List (List Int)} {aim : List (List (Int × Int))} (hn : prop_CheckNight n = some 0) (ok : NightOk n) (pk : ProgOk p) (dk : DeskOk n p cl aim) (s : State_) (i : Nat) (hi : i < p.2.length) (h0 : 0 ≤ s.1) (b : Int × Int) (b' : Cand_) : ∀ (u k : Nat), n.2.2.2.2.1.toNat + 1 - k = u → s.1 ≤ (k : Int) → (k : Int) ≤ n.2.2.2.2.1 + 1 →
    (∃ (k' : Nat) (q : Int × Int), s.1 ≤ (k' : Int) ∧ (k' : Int) + (p.2.getD i (0, 0, (0, 0, 0), 0, 0, 0, 0, 0, 0, 0, 0)).2.2.2.1 ≤ n.2.2.2.2.1 ∧ plan_Desk_reach.p2 i k (n, m, p, cl, aim) s b = some ((k' : Int), q, true) ∧ spyref2_Table_Look.p6 i k (n, m, p, cl) s b' (p.2.getD i (0, 0, (0, 0, 0), 0, 0, 0, 0, 0, 0, 0, 0)) ((i : Int), (-1), (0, 0), 0, 0) = spyref2_Table_Look.p13 i (n, m, p, cl) s b' (p.2.getD i (0, 0, (0, 0, 0), 0, 0, 0, 0, 0, 0, 0, 0)) ((i : Int), (k' : Int), q, 0, 0)) ∨
    (plan_Desk_reach.p2 i k (n, m, p, cl, aim) s b = some (0, (0, 0), false) ∧ spyref2_Table_Look.p6 i k (n, m, p, cl) s b' (p.2.getD i (0, 0, (0, 0, 0), 0, 0, 0, 0, 0, 0, 0, 0)) ((i : Int), (-1), (0, 0), 0, 0) = some ((0, 0, (0, 0), 0, 0), 2)) := by
  have hs := ok.slots
  have rl := req_len pk hi
  have la := dk.la
  obtain ⟨al, ak⟩ := dk.a i hi
  have none_ : spyref2_Table_Look.p13 i (n, m, p, cl) s b' (p.2.getD i (0, 0, (0, 0, 0), 0, 0, 0, 0, 0, 0, 0, 0)) ((i : Int), (-1), (0, 0), 0, 0) = some ((0, 0, (0, 0), 0, 0), 2) := by
    rw [spyref2_Table_Look.p13_eq, if_pos (by rw [dt]; simp only; omega)]
  intro u
  induction u with
  | zero =>
    intro k hu h1 h2
    refine .inr ⟨?_, ?_⟩
    · rw [plan_Desk_reach.p2_eq]
      simp only [toNat_nat]
      rw [if_pos (by omega), if_pos (by omega), wi (x := n.2.2.2.2.1 - (p.2.getD i (0, 0, (0, 0, 0), 0, 0, 0, 0, 0, 0, 0, 0)).2.2.2.1) (by omega) (by omega), if_neg (by rw [dt]; omega)]
    · rw [spyref2_Table_Look.p6_eq, wi (x := (k : Int) + (p.2.getD i (0, 0, (0, 0, 0), 0, 0, 0, 0, 0, 0, 0, 0)).2.2.2.1) (by omega) (by omega)]
      simp only
      rw [if_neg (by rw [dt]; omega)]
      exact none_
  | succ u ih =>
    intro k hu h1 h2
    by_cases c : (k : Int) + (p.2.getD i (0, 0, (0, 0, 0), 0, 0, 0, 0, 0, 0, 0, 0)).2.2.2.1 ≤ n.2.2.2.2.1
    · have am := ak k (by omega)
      have wt := aim_wf am
      obtain ⟨x, x1, _, _, _⟩ := to_def m s.2.1 ((aim.getD i []).getD k (0, 0)) wt.1 wt.2
      obtain ⟨y, y1⟩ := slots_def hn ok x.2.1
      have w1 : IntKind.i64.wrap ((k : Int) - s.1) = (k : Int) - s.1 := wi (by omega) (by omega)
      have e1 : plan_Desk_reach.p2 i k (n, m, p, cl, aim) s b = if (x.2.2 == 0) = true then (if decide (y ≤ (k : Int) - s.1) = true then some ((k : Int), x.1, true) else plan_Desk_reach.p2 i ((k + 1 : Nat) : Int) (n, m, p, cl, aim) s b) else plan_Desk_reach.p2 i ((k + 1 : Nat) : Int) (n, m, p, cl, aim) s b := by
        rw [plan_Desk_reach.p2_eq]
        simp only [toNat_nat]
        rw [if_pos (by omega), if_pos (by omega), wi (x := n.2.2.2.2.1 - (p.2.getD i (0, 0, (0, 0, 0), 0, 0, 0, 0, 0, 0, 0, 0)).2.2.2.1) (by omega) (by omega), if_pos (by rw [dt]; omega), if_pos (by omega), if_pos (by omega), if_pos (by omega), if_pos (by omega), x1, bind_some_, y1, bind_some_, w1, wi_nat (by omega)]
      have e2 : spyref2_Table_Look.p6 i k (n, m, p, cl) s b' (p.2.getD i (0, 0, (0, 0, 0), 0, 0, 0, 0, 0, 0, 0, 0)) ((i : Int), (-1), (0, 0), 0, 0) = if (x.2.2 == 0) = true then (if decide (y ≤ (k : Int) - s.1) = true then spyref2_Table_Look.p6 i ((k + 1 : Nat) : Int) (n, m, p, cl) s b' (p.2.getD i (0, 0, (0, 0, 0), 0, 0, 0, 0, 0, 0, 0, 0)) ((i : Int), (k : Int), x.1, 0, 0) else spyref2_Table_Look.p6 i ((k + 1 : Nat) : Int) (n, m, p, cl) s b' (p.2.getD i (0, 0, (0, 0, 0), 0, 0, 0, 0, 0, 0, 0, 0)) ((i : Int), (-1), (0, 0), 0, 0)) else spyref2_Table_Look.p6 i ((k + 1 : Nat) : Int) (n, m, p, cl) s b' (p.2.getD i (0, 0, (0, 0, 0), 0, 0, 0, 0, 0, 0, 0, 0)) ((i : Int), (-1), (0, 0), 0, 0) := by
        rw [spyref2_Table_Look.p6_eq, wi (x := (k : Int) + (p.2.getD i (0, 0, (0, 0, 0), 0, 0, 0, 0, 0, 0, 0, 0)).2.2.2.1) (by omega) (by omega)]
        simp only
        rw [if_pos (by rw [dt]; omega), if_pos (by rw [dt]; omega), am, bind_some_, if_neg (show ¬ ((0 : Int) != 0) = true by decide), x1, bind_some_, y1, bind_some_, w1, wi_nat (by omega)]
      rw [e1, e2]
      by_cases z : (x.2.2 == 0) = true
      · rw [if_pos z, if_pos z]
        by_cases z2 : decide (y ≤ (k : Int) - s.1) = true
        · rw [if_pos z2, if_pos z2]
          refine .inl ⟨k, x.1, h1, c, rfl, ?_⟩
          rw [spyref2_Table_Look.p6_eq]
          by_cases z3 : decide ((IntKind.i64.wrap (((k + 1 : Nat) : Int) + (p.2.getD i (0, 0, (0, 0, 0), 0, 0, 0, 0, 0, 0, 0, 0)).2.2.2.1)) ≤ n.2.2.2.2.1) = true
          · rw [if_pos z3, if_neg (by rw [dt]; simp only; omega)]
          · rw [if_neg z3]
        · rw [if_neg z2, if_neg z2]
          exact ih (k + 1) (by omega) (by omega) (by omega)
      · rw [if_neg z, if_neg z]
        exact ih (k + 1) (by omega) (by omega) (by omega)
    · refine .inr ⟨?_, ?_⟩
      · rw [plan_Desk_reach.p2_eq]
        simp only [toNat_nat]
        rw [if_pos (by omega), if_pos (by omega), wi (x := n.2.2.2.2.1 - (p.2.getD i (0, 0, (0, 0, 0), 0, 0, 0, 0, 0, 0, 0, 0)).2.2.2.1) (by omega) (by omega), if_neg (by rw [dt]; omega)]
      · rw [spyref2_Table_Look.p6_eq, wi (x := (k : Int) + (p.2.getD i (0, 0, (0, 0, 0), 0, 0, 0, 0, 0, 0, 0, 0)).2.2.2.1) (by omega) (by omega)]
        simp only
        rw [if_neg (by rw [dt]; omega)]
        exact none_
theorem look_same {n : Night} {m : Mount_} {p : Progr} {cl : List (List Int)} {aim : List (List (Int × Int))} (hn : prop_CheckNight n = some 0) (hm : slew_CheckMount m = some 0) (ok : NightOk n) (mk : MtOk m) (pk : ProgOk p) (dk : DeskOk n p cl aim) {s : State_} (st : StOk n p s) (i : Nat) (hi : i < p.2.length) :
    ∃ f : Cand_ × Int, plan_Desk_look (n, m, p, cl, aim) s i = some f ∧ spyref2_Table_Look (n, m, p, cl) s i = some f ∧ (f.2 = 0 → f.1.1 = (i : Int) ∧ s.1 ≤ f.1.2.1 ∧ f.1.2.1 + (p.2.getD i (0, 0, (0, 0, 0), 0, 0, 0, 0, 0, 0, 0, 0)).2.2.2.1 ≤ n.2.2.2.2.1 ∧ ((s.2.2.getD i []).length : Int) < (p.2.getD i (0, 0, (0, 0, 0), 0, 0, 0, 0, 0, 0, 0, 0)).2.2.2.2.1) := by
  have hr := pk.reqs
  have h64 := ok.slots
  have hl := st.len
  have hslot := st.slot
  have rl := req_len pk hi
  have hvis := st.vis i hi
  have hrf := req_fault pk hi
  have lc := dk.lc
  have run := fun b b' => reach_run (m := m) hn ok pk dk s i hi hslot.1 b b' _ s.1.toNat rfl (by omega) (by omega)
  rw [show ((s.1.toNat : Nat) : Int) = s.1 by omega] at run
  rw [plan_Desk_look_eq, spyref2_Table_Look_eq, plan_Desk_reach_eq]
  simp only [toNat_nat]
  rw [if_pos (show (0 : Int) ≤ (i : Int) by omega), if_pos (show (i : Int) < (p.2.length : Int) by omega), if_pos (show (0 : Int) ≤ (i : Int) by omega), if_pos (show (i : Int) < (s.2.2.length : Int) by omega)]
  rw [if_pos (show (0 : Int) ≤ (i : Int) by omega), if_pos (show (i : Int) < (p.2.length : Int) by omega), if_pos (show (0 : Int) ≤ (i : Int) by omega), if_pos (show (i : Int) < (s.2.2.length : Int) by omega)]
  obtain ⟨r, hR⟩ : ∃ r, p.2.getD i (0, 0, (0, 0, 0), 0, 0, 0, 0, 0, 0, 0, 0) = r := ⟨_, rfl⟩
  obtain ⟨l, hS⟩ : ∃ l, s.2.2.getD i [] = l := ⟨_, rfl⟩
  rw [hR] at rl hvis hrf run ⊢
  rw [hS] at hvis ⊢
  have bad : ∀ (c : Cand_) (e : Int), e ≠ 0 → ∀ {x y : Option (Cand_ × Int)}, x = some (c, e) → y = some (c, e) → ∃ f : Cand_ × Int, x = some f ∧ y = some f ∧ (f.2 = 0 → f.1.1 = (i : Int) ∧ s.1 ≤ f.1.2.1 ∧ f.1.2.1 + r.2.2.2.1 ≤ n.2.2.2.2.1 ∧ (l.length : Int) < r.2.2.2.2.1) := fun c e he x y hx hy => ⟨_, hx, hy, fun k => absurd k he⟩
  by_cases c1 : (l.length : Int) = r.2.2.2.2.1
  · rw [if_pos (show decide ((l.length : Int) ≥ r.2.2.2.2.1) = true by rw [dt]; omega), if_pos (show ((l.length : Int) == r.2.2.2.2.1) = true by rw [eq_t]; exact c1)]
    exact bad _ 1 (by decide) rfl rfl
  rw [if_neg (show ¬ decide ((l.length : Int) ≥ r.2.2.2.2.1) = true by rw [dt]; omega), if_neg (show ¬ ((l.length : Int) == r.2.2.2.2.1) = true by rw [eq_t]; exact c1)]
  rcases run (0, 0) (0, 0, (0, 0), 0, 0) with ⟨a, q, a1, a2, a3, a4⟩ | ⟨a3, a4⟩
  · rw [a3, a4, bind_some_]
    simp only
    rw [if_neg (show ¬ (!true) = true by decide), spyref2_Table_Look.p13_eq]
    simp only [toNat_nat]
    rw [hS, if_neg (show ¬ decide ((a : Int) < 0) = true by rw [dt]; omega)]
    rw [if_pos (show (0 : Int) ≤ (i : Int) by omega), if_pos (show (i : Int) < (s.2.2.length : Int) by omega)]
    obtain ⟨L, hL⟩ : ∃ L : Nat, r.2.2.2.1 = (L : Int) := ⟨r.2.2.2.1.toNat, by omega⟩
    have tail : ∃ f : Cand_ × Int, plan_Desk_look.p15 (i : Int) (a : Int) (a : Int) (n, m, p, cl, aim) (0, 0, (0, 0), 0, 0) r q ((i : Int), (a : Int), q, 0, 0) = some f ∧ spyref2_Table_Look.p22 (i : Int) (n, m, p, cl) (0, 0, (0, 0), 0, 0) r ((i : Int), (a : Int), q, 0, 0) = some f ∧ (f.2 = 0 → f.1.1 = (i : Int) ∧ s.1 ≤ f.1.2.1 ∧ f.1.2.1 + r.2.2.2.1 ≤ n.2.2.2.2.1 ∧ (l.length : Int) < r.2.2.2.2.1) := by
      rw [spyref2_Table_Look.p22_eq]
      simp only
      have eo : spyref2_Table_AllOpen (n, m, p, cl) (i : Int) (a : Int) = spyref2_Table_AllOpen.p2 i a L 0 (n, m, p, cl) := by
        rw [spyref2_Table_AllOpen_eq]
        simp only
        rw [if_pos (by omega), if_pos (by omega), toNat_nat, hR, hL]
      have run := open_look (m := m) dk (0, 0, (0, 0), 0, 0) ((i : Int), (a : Int), q, 0, 0) q r i hi a L hL (by omega) (by omega) _ 0 rfl (by omega)
      rw [show ((0 : Nat) : Int) = 0 from rfl, Nat.add_zero] at run
      rw [eo]
      rcases run with ⟨o1, o2⟩ | ⟨o1, o2⟩
      · rw [o1, o2, bind_some_, if_pos (by decide)]
        exact bad _ 5 (by decide) rfl rfl
      · rw [o1, o2, bind_some_, if_neg (by decide), plan_Desk_look.p15_eq]
        simp only
        rw [hL, wi (x := (a : Int) + L) (by omega) (by omega), if_neg (by rw [dt]; omega)]
        obtain ⟨t, t1, t2⟩ := track_def m n q r.2.2.1 (a : Int) ((a : Int) + L) hm hn ok mk (request_dir hrf)
        simp only [t1, bind_some_]
        by_cases z3 : t.2 = 0
        · have n1 : ¬ (t.2 != 0) = true := by rw [ne_t]; exact fun q => q z3
          rw [if_neg n1]
          exact ⟨_, rfl, rfl, fun _ => ⟨rfl, a1, by simp only; omega, by omega⟩⟩
        · have n1 : (t.2 != 0) = true := by rw [ne_t]; exact z3
          rw [if_pos n1]
          exact ⟨_, rfl, rfl, fun k => absurd k (show ¬ ((6 : Int) = 0) by decide)⟩
    by_cases c6 : (l.length : Int) > 0
    · have wl : IntKind.i64.wrap ((l.length : Int) - 1) = (l.length : Int) - 1 := wi (by omega) (by omega)
      rw [if_pos (show decide ((l.length : Int) > 0) = true by rw [dt]; exact c6), if_pos (show decide ((l.length : Int) > 0) = true by rw [dt]; exact c6)]
      simp only [wl]
      rw [if_pos (show (0 : Int) ≤ (i : Int) by omega), if_pos (show (i : Int) < (s.2.2.length : Int) by omega)]
      rw [if_pos (show 0 ≤ (l.length : Int) - 1 by omega), if_pos (show (l.length : Int) - 1 < (l.length : Int) by omega), if_pos (show 0 ≤ (l.length : Int) - 1 by omega), if_pos (show (l.length : Int) - 1 < (l.length : Int) by omega)]
      obtain ⟨g, hg⟩ : ∃ g, g = IntKind.i64.wrap ((a : Int) - l.getD ((l.length : Int) - 1).toNat 0) := ⟨_, rfl⟩
      rw [← hg]
      by_cases c8 : decide (g < r.2.2.2.2.2.1) = true
      · rw [if_pos c8, if_pos c8]
        exact bad _ 3 (by decide) rfl rfl
      · rw [if_neg c8, if_neg c8]
        by_cases c9 : decide (g > r.2.2.2.2.2.2.1) = true
        · rw [if_pos c9, if_pos c9]
          exact bad _ 4 (by decide) rfl rfl
        · rw [if_neg c9, if_neg c9]
          exact tail
    · rw [if_neg (show ¬ decide ((l.length : Int) > 0) = true by rw [dt]; exact c6), if_neg (show ¬ decide ((l.length : Int) > 0) = true by rw [dt]; exact c6)]
      exact tail
  · rw [a3, a4, bind_some_, if_pos (show (!false) = true by decide)]
    exact bad _ 2 (by decide) rfl rfl
theorem prop_part {n : Night} {m : Mount_} {p : Progr} (h : plan_CheckAll n m p = some 0) : prop_Check p = some 0 := by
  obtain ⟨h1, h2, _⟩ := all_parts h
  obtain ⟨e, e1, _⟩ := prog_same p
  rw [plan_CheckAll_eq, h1, bind_some_, if_neg (by decide), h2, bind_some_, if_neg (by decide), e1, bind_some_] at h
  rw [e1, Option.some.inj h]
structure UsedOk (n : Night) (m : Mount_) (p : Progr) (cl : List (List Int)) (s : State_) (c : List Int) : Prop where
  used : plan_Used p s = some c
  len : c.length = p.1.length
  by_ : ∀ j, j < p.1.length → spyref2_Table_UsedBy (n, m, p, cl) s (j : Int) = some (c.getD j 0)
theorem used_ok {n : Night} {m : Mount_} {p : Progr} {cl : List (List Int)} (hp : prop_Check p = some 0) (pk : ProgOk p) {s : State_} (st : StOk n p s) : ∃ c, UsedOk n m p cl s c := by
  have hq := pk.names
  obtain ⟨c, c1, c2, c3⟩ := used_p5 p pk s st.len _ 0 (List.replicate p.1.length 0) rfl (by omega) (by simp)
  rw [show ((0 : Nat) : Int) = 0 from rfl] at c2
  refine ⟨c, ?_, c1, fun j hj => ?_⟩
  · have hl := st.len
    rw [plan_Used_eq, hp, bind_some_, if_pos (by decide), if_neg (by rw [ne_t]; omega), if_pos rfl, if_pos (by omega), if_pos (by omega), c2]
  · have := c3 j (by omega)
    rw [show ((0 : Nat) : Int) = 0 from rfl] at this
    rw [spyref2_Table_UsedBy_eq]
    simp only
    rw [getD_nat _ _ (show j < c.length by omega), ← this]
    congr 1
    rw [List.getD_eq_getElem?_getD, List.getElem?_replicate, if_pos hj]
    rfl
theorem req_prop {p : Progr} (ok : ProgOk p) {j : Nat} (h : j < p.2.length) : 0 ≤ (p.2.getD j (0, 0, (0, 0, 0), 0, 0, 0, 0, 0, 0, 0, 0)).2.1 ∧ (p.2.getD j (0, 0, (0, 0, 0), 0, 0, 0, 0, 0, 0, 0, 0)).2.1 < (p.1.length : Int) := by
  rw [getD_nat _ _ h]
  exact ⟨(ok.at_ j h).2.1, (ok.at_ j h).2.2.1⟩
theorem better_same {n : Night} {m : Mount_} {p : Progr} {cl : List (List Int)} {aim : List (List (Int × Int))} (pk : ProgOk p) {s : State_} {c : List Int} (uo : UsedOk n m p cl s c) (x y : Cand_) (i k : Nat) (hx : x.1 = (i : Int)) (hy : y.1 = (k : Int)) (hi : i < p.2.length) (hk : k < p.2.length) : ∃ b, plan_Desk_better (n, m, p, cl, aim) c x y = some b ∧ spyref2_Table_Better (n, m, p, cl) s x y = some b := by
  have p1 := req_prop pk hi
  have p2 := req_prop pk hk
  have hl := uo.len
  have e1 : spyref2_Table_UsedBy (n, m, p, cl) s (p.2.getD i (0, 0, (0, 0, 0), 0, 0, 0, 0, 0, 0, 0, 0)).2.1 = some (c.getD (p.2.getD i (0, 0, (0, 0, 0), 0, 0, 0, 0, 0, 0, 0, 0)).2.1.toNat 0) := by
    have := uo.by_ (p.2.getD i (0, 0, (0, 0, 0), 0, 0, 0, 0, 0, 0, 0, 0)).2.1.toNat (by omega)
    rw [show (((p.2.getD i (0, 0, (0, 0, 0), 0, 0, 0, 0, 0, 0, 0, 0)).2.1.toNat : Nat) : Int) = (p.2.getD i (0, 0, (0, 0, 0), 0, 0, 0, 0, 0, 0, 0, 0)).2.1 by omega] at this
    exact this
  have e2 : spyref2_Table_UsedBy (n, m, p, cl) s (p.2.getD k (0, 0, (0, 0, 0), 0, 0, 0, 0, 0, 0, 0, 0)).2.1 = some (c.getD (p.2.getD k (0, 0, (0, 0, 0), 0, 0, 0, 0, 0, 0, 0, 0)).2.1.toNat 0) := by
    have := uo.by_ (p.2.getD k (0, 0, (0, 0, 0), 0, 0, 0, 0, 0, 0, 0, 0)).2.1.toNat (by omega)
    rw [show (((p.2.getD k (0, 0, (0, 0, 0), 0, 0, 0, 0, 0, 0, 0, 0)).2.1.toNat : Nat) : Int) = (p.2.getD k (0, 0, (0, 0, 0), 0, 0, 0, 0, 0, 0, 0, 0)).2.1 by omega] at this
    exact this
  rw [plan_Desk_better_eq, spyref2_Table_Better_eq, hx, hy]
  simp only [toNat_nat]
  obtain ⟨r, hR⟩ : ∃ r, p.2.getD i (0, 0, (0, 0, 0), 0, 0, 0, 0, 0, 0, 0, 0) = r := ⟨_, rfl⟩
  obtain ⟨t, hT⟩ : ∃ t, p.2.getD k (0, 0, (0, 0, 0), 0, 0, 0, 0, 0, 0, 0, 0) = t := ⟨_, rfl⟩
  rw [hR] at p1 e1 ⊢
  rw [hT] at p2 e2 ⊢
  rw [e1, e2, bind_some_, bind_some_]
  rw [if_pos (show (0 : Int) ≤ (i : Int) by omega), if_pos (show (i : Int) < (p.2.length : Int) by omega), if_pos (show (0 : Int) ≤ (k : Int) by omega), if_pos (show (k : Int) < (p.2.length : Int) by omega), if_pos (show 0 ≤ r.2.1 by omega), if_pos (show r.2.1 < (c.length : Int) by omega), if_pos (show 0 ≤ t.2.1 by omega), if_pos (show t.2.1 < (p.1.length : Int) by omega), if_pos (show 0 ≤ t.2.1 by omega), if_pos (show t.2.1 < (c.length : Int) by omega), if_pos (show 0 ≤ r.2.1 by omega), if_pos (show r.2.1 < (p.1.length : Int) by omega)]
  rw [if_pos (show (0 : Int) ≤ (i : Int) by omega), if_pos (show (i : Int) < (p.2.length : Int) by omega), if_pos (show (0 : Int) ≤ (k : Int) by omega), if_pos (show (k : Int) < (p.2.length : Int) by omega), if_pos (show 0 ≤ t.2.1 by omega), if_pos (show t.2.1 < (p.1.length : Int) by omega)]
  have same : ∀ {z : Option Bool}, (∃ b, z = some b) → ∃ b, z = some b ∧ z = some b := fun ⟨b, h⟩ => ⟨b, h, h⟩
  refine same ?_
  split
  · exact ⟨_, rfl⟩
  · split
    · exact ⟨_, rfl⟩
    · split <;> exact ⟨_, rfl⟩
theorem looks_all {n : Night} {m : Mount_} {p : Progr} {cl : List (List Int)} {aim : List (List (Int × Int))} (hn : prop_CheckNight n = some 0) (hm : slew_CheckMount m = some 0) (ok : NightOk n) (mk : MtOk m) (pk : ProgOk p) (dk : DeskOk n p cl aim) {s : State_} (st : StOk n p s) : ∃ f : Nat → Cand_ × Int, ∀ j, j < p.2.length → plan_Desk_look (n, m, p, cl, aim) s (j : Int) = some (f j) ∧ spyref2_Table_Look (n, m, p, cl) s (j : Int) = some (f j) ∧ ((f j).2 = 0 → (f j).1.1 = (j : Int)) := by
  refine ⟨fun j => (plan_Desk_look (n, m, p, cl, aim) s (j : Int)).getD ((0, 0, (0, 0), 0, 0), 0), fun j hj => ?_⟩
  obtain ⟨f, f1, f2, f3⟩ := look_same hn hm ok mk pk dk st j hj
  simp only [f1, Option.getD_some]
  exact ⟨trivial, f2, fun k => (f3 k).1⟩
theorem start_p6 {n : Night} {p : Progr} (pk : ProgOk p) (s : State_) (hs : s.2.2 = List.replicate p.2.length []) : ∀ (u k : Nat), p.2.length - k = u → k ≤ p.2.length → plan_CheckState.p6 (List.replicate p.2.length []) ((List.replicate p.2.length ([] : List Int)).length : Int) k p s = some 0 := by
  have hr := pk.reqs
  intro u
  induction u with
  | zero =>
    intro k hu hk
    rw [plan_CheckState.p6_eq, if_neg (by rw [dt]; simp; omega)]
  | succ u ih =>
    intro k hu hk
    have rl := req_len pk (j := k) (by omega)
    rw [plan_CheckState.p6_eq, if_pos (by rw [dt]; simp; omega), if_pos (by omega), if_pos (by simp; omega), if_pos (by omega), if_pos (by omega), toNat_nat, getD_repl, if_neg (by rw [dt]; show ¬ ((0 : Int) > (p.2.getD k (0, 0, (0, 0, 0), 0, 0, 0, 0, 0, 0, 0, 0)).2.2.2.2.1); omega), plan_CheckState.p11_eq, if_neg (by decide), wi_nat (by omega)]
    exact ih (k + 1) (by omega) (by omega)
theorem start_ok {n : Night} {m : Mount_} {p : Progr} (ok : NightOk n) (mk : MtOk m) (pk : ProgOk p) : plan_CheckState n m p (0, m.2.2, List.replicate p.2.length []) = some 0 := by
  have h := ok.slots
  have a := mk.p
  have b := mk.q
  rw [plan_CheckState_eq, (in_within ..).1, (in_within ..).1]
  simp only [bind_some_]
  rw [if_pos (by rw [df]; omega), if_pos (by rw [df]; omega), if_pos (by rw [not_f, dt]; exact a), if_neg (by rw [not_t, df]; exact fun q => q b), if_neg (by rw [ne_t]; simp)]
  exact start_p6 (n := n) pk _ rfl _ 0 rfl (by omega)
/-! Heaps: lists in which no element stands behind its parent. -/
section
variable {α : Type}
def swp (l : List α) (d : α) (i j : Nat) : List α := (l.set i (l.getD j d)).set j (l.getD i d)
theorem swp_len (l : List α) (d : α) (i j : Nat) : (swp l d i j).length = l.length := by simp [swp]
theorem getD_set_if (l : List α) (d x : α) (i k : Nat) (hi : i < l.length) : (l.set i x).getD k d = if k = i then x else l.getD k d := by
  by_cases e : k = i
  · subst e
    rw [if_pos rfl, List.getD_eq_getElem?_getD, List.getElem?_set, if_pos rfl, if_pos hi]
    rfl
  · rw [if_neg e, List.getD_eq_getElem?_getD, List.getElem?_set, if_neg (fun q => e q.symm), List.getD_eq_getElem?_getD]
theorem swp_at (l : List α) (d : α) (i j k : Nat) (hi : i < l.length) (hj : j < l.length) : (swp l d i j).getD k d = if k = j then l.getD i d else if k = i then l.getD j d else l.getD k d := by
  rw [swp, getD_set_if _ _ _ _ _ (by simpa using hj), getD_set_if _ _ _ _ _ hi]
theorem mem_getD (l : List α) (d x : α) : x ∈ l ↔ ∃ k, k < l.length ∧ l.getD k d = x := by
  rw [List.mem_iff_getElem]
  constructor
  · rintro ⟨k, hk, e⟩
    exact ⟨k, hk, by rw [List.getD_eq_getElem?_getD, List.getElem?_eq_getElem hk]; exact e⟩
  · rintro ⟨k, hk, e⟩
    refine ⟨k, hk, ?_⟩
    rw [List.getD_eq_getElem?_getD, List.getElem?_eq_getElem hk] at e
    exact e
theorem swp_mem (l : List α) (d : α) (i j : Nat) (hi : i < l.length) (hj : j < l.length) (x : α) : x ∈ swp l d i j ↔ x ∈ l := by
  rw [mem_getD _ d, mem_getD _ d, swp_len]
  constructor
  · rintro ⟨k, hk, e⟩
    rw [swp_at l d i j k hi hj] at e
    by_cases h1 : k = j
    · rw [if_pos h1] at e
      exact ⟨i, hi, e⟩
    · rw [if_neg h1] at e
      by_cases h2 : k = i
      · rw [if_pos h2] at e
        exact ⟨j, hj, e⟩
      · rw [if_neg h2] at e
        exact ⟨k, hk, e⟩
  · rintro ⟨k, hk, e⟩
    by_cases h1 : k = j
    · refine ⟨i, hi, ?_⟩
      rw [swp_at l d i j i hi hj]
      by_cases h2 : i = j
      · rw [if_pos h2, h2, ← h1]
        exact e
      · rw [if_neg h2, if_pos rfl, ← h1]
        exact e
    · by_cases h2 : k = i
      · refine ⟨j, hj, ?_⟩
        rw [swp_at l d i j j hi hj, if_pos rfl, ← h2]
        exact e
      · refine ⟨k, hk, ?_⟩
        rw [swp_at l d i j k hi hj, if_neg h1, if_neg h2]
        exact e
/-- A strict order on what P tells of. -/
structure Ord (P : α → Prop) (lt : α → α → Bool) : Prop where
  asym : ∀ x y, P x → P y → lt x y = true → lt y x = false
  trans : ∀ x y z, P x → P y → P z → lt y x = false → lt z y = false → lt z x = false
def Hp (lt : α → α → Bool) (d : α) (l : List α) : Prop := ∀ k, 0 < k → k < l.length → lt (l.getD k d) (l.getD ((k - 1) / 2) d) = false
structure UpInv (lt : α → α → Bool) (d : α) (l : List α) (j : Nat) : Prop where
  up : ∀ k, 0 < k → k < l.length → k ≠ j → lt (l.getD k d) (l.getD ((k - 1) / 2) d) = false
  two : ∀ k, 0 < k → k < l.length → (k - 1) / 2 = j → 0 < j → lt (l.getD k d) (l.getD ((j - 1) / 2) d) = false
theorem Ord.irr {P : α → Prop} {lt : α → α → Bool} (h : Ord P lt) (x : α) (hx : P x) : lt x x = false := by
  cases e : lt x x with
  | false => rfl
  | true => exact (h.asym x x hx hx e).symm.trans e ▸ rfl
theorem Hp.min {P : α → Prop} {lt : α → α → Bool} (h : Ord P lt) {d : α} {l : List α} (hp : Hp lt d l) (hP : ∀ x, x ∈ l → P x) : ∀ k, k < l.length → lt (l.getD k d) (l.getD 0 d) = false := by
  have at_ : ∀ k, k < l.length → P (l.getD k d) := fun k hk => hP _ ((mem_getD l d _).2 ⟨k, hk, rfl⟩)
  intro k
  induction k using Nat.strongRecOn with
  | _ k ih =>
    intro hk
    by_cases e : k = 0
    · subst e
      exact h.irr _ (at_ 0 hk)
    · exact h.trans _ _ _ (at_ 0 (by omega)) (at_ ((k - 1) / 2) (by omega)) (at_ k hk) (ih ((k - 1) / 2) (by omega) (by omega)) (hp k (by omega) hk)
theorem UpInv.done {lt : α → α → Bool} {d : α} {l : List α} {j : Nat} (h : UpInv lt d l j) (hj : j = 0 ∨ lt (l.getD j d) (l.getD ((j - 1) / 2) d) = false) : Hp lt d l := by
  intro k h0 hk
  by_cases e : k = j
  · subst e
    exact hj.resolve_left (by omega)
  · exact h.up k h0 hk e
theorem UpInv.step {P : α → Prop} {lt : α → α → Bool} (o : Ord P lt) {d : α} {l : List α} {j : Nat} (h : UpInv lt d l j) (hP : ∀ x, x ∈ l → P x) (h0 : 0 < j) (hj : j < l.length) (hl : lt (l.getD j d) (l.getD ((j - 1) / 2) d) = true) : UpInv lt d (swp l d ((j - 1) / 2) j) ((j - 1) / 2) := by
  have at_ : ∀ k, k < l.length → P (l.getD k d) := fun k hk => hP _ ((mem_getD l d _).2 ⟨k, hk, rfl⟩)
  have hp : (j - 1) / 2 < l.length := by omega
  have hpj : (j - 1) / 2 ≠ j := by omega
  have sw : ∀ k, (swp l d ((j - 1) / 2) j).getD k d = if k = j then l.getD ((j - 1) / 2) d else if k = (j - 1) / 2 then l.getD j d else l.getD k d := fun k => swp_at l d _ j k hp hj
  have asy := o.asym _ _ (at_ j hj) (at_ _ hp) hl
  refine ⟨fun k k0 kl kn => ?_, fun k k0 kl kp p0 => ?_⟩
  · rw [swp_len] at kl
    rw [sw, sw]
    by_cases e : k = j
    · subst e
      rw [if_pos rfl, if_neg hpj, if_pos rfl]
      exact asy
    · rw [if_neg e, if_neg kn]
      by_cases e1 : (k - 1) / 2 = j
      · rw [if_pos e1]
        exact h.two k k0 kl e1 h0
      · rw [if_neg e1]
        by_cases e2 : (k - 1) / 2 = (j - 1) / 2
        · rw [if_pos e2]
          have := h.up k k0 kl e
          rw [e2] at this
          exact o.trans _ _ _ (at_ j hj) (at_ _ hp) (at_ k kl) asy this
        · rw [if_neg e2]
          exact h.up k k0 kl e
  · rw [swp_len] at kl
    rw [sw, sw, if_neg (show ((j - 1) / 2 - 1) / 2 ≠ j by omega), if_neg (show ((j - 1) / 2 - 1) / 2 ≠ (j - 1) / 2 by omega)]
    have pp := h.up ((j - 1) / 2) p0 hp hpj
    by_cases e : k = j
    · rw [if_pos e]
      exact pp
    · rw [if_neg e, if_neg (by omega)]
      have := h.up k k0 kl e
      rw [kp] at this
      exact o.trans _ _ _ (at_ _ (by omega)) (at_ _ hp) (at_ k kl) pp this
theorem UpInv.push {lt : α → α → Bool} {d : α} {l : List α} (h : Hp lt d l) (x : α) : UpInv lt d (l ++ [x]) l.length := by
  have old : ∀ k, k < l.length → (l ++ [x]).getD k d = l.getD k d := fun k hk => by
    rw [List.getD_eq_getElem?_getD, List.getElem?_append_left hk, List.getD_eq_getElem?_getD]
  refine ⟨fun k k0 kl kn => ?_, fun k k0 kl kp _ => ?_⟩
  · rw [List.length_append, List.length_singleton] at kl
    rw [old k (by omega), old _ (by omega)]
    exact h k k0 (by omega)
  · rw [List.length_append, List.length_singleton] at kl
    omega
end
/-! The order of candidates: the lesser part of a share; the greater weight; the earlier start; the smaller index. -/
def lex4 (A B wa wb sa sb ia ib : Int) : Bool := if (A != B) = true then decide (A < B) else if (wa != wb) = true then decide (wa > wb) else if (sa != sb) = true then decide (sa < sb) else decide (ia < ib)
theorem lex4_t {A B wa wb sa sb ia ib : Int} : lex4 A B wa wb sa sb ia ib = true ↔ A < B ∨ (A = B ∧ (wa > wb ∨ (wa = wb ∧ (sa < sb ∨ (sa = sb ∧ ia < ib))))) := by
  unfold lex4
  by_cases h1 : A = B
  · subst h1
    rw [if_neg (by simp)]
    by_cases h2 : wa = wb
    · subst h2
      rw [if_neg (by simp)]
      by_cases h3 : sa = sb
      · subst h3
        rw [if_neg (by simp), decide_eq_true_eq]
        omega
      · rw [if_pos (by simpa using h3), decide_eq_true_eq]
        omega
    · rw [if_pos (by simpa using h2), decide_eq_true_eq]
      omega
  · rw [if_pos (by simpa using h1), decide_eq_true_eq]
    omega
abbrev Key : Type := Int × Int × Int × Int × Int
def kl (x y : Key) : Bool := lex4 (x.1 * y.2.1) (y.1 * x.2.1) x.2.2.1 y.2.2.1 x.2.2.2.1 y.2.2.2.1 x.2.2.2.2 y.2.2.2.2
theorem frac {ux uy uz sx sy sz : Int} (hx : 0 < sx) (hy : 0 < sy) (hz : 0 < sz) (h1 : ux * sy ≤ uy * sx) (h2 : uy * sz ≤ uz * sy) : ux * sz ≤ uz * sx ∧ ((ux * sy < uy * sx ∨ uy * sz < uz * sy) → ux * sz < uz * sx) ∧ (ux * sy = uy * sx → uy * sz = uz * sy → ux * sz = uz * sx) := by
  have e1 : ux * sz * sy = ux * sy * sz := by rw [Int.mul_assoc, Int.mul_comm sz sy, ← Int.mul_assoc]
  have e2 : uz * sx * sy = uz * sy * sx := by rw [Int.mul_assoc, Int.mul_comm sx sy, ← Int.mul_assoc]
  have e3 : uy * sx * sz = uy * sz * sx := by rw [Int.mul_assoc, Int.mul_comm sx sz, ← Int.mul_assoc]
  have l1 : ux * sy * sz ≤ uy * sx * sz := Int.mul_le_mul_of_nonneg_right h1 (Int.le_of_lt hz)
  have l2 : uy * sz * sx ≤ uz * sy * sx := Int.mul_le_mul_of_nonneg_right h2 (Int.le_of_lt hx)
  refine ⟨Int.le_of_mul_le_mul_right (by omega : ux * sz * sy ≤ uz * sx * sy) hy, fun h => ?_, fun k1 k2 => ?_⟩
  · refine Int.lt_of_mul_lt_mul_right (?_ : ux * sz * sy < uz * sx * sy) (Int.le_of_lt hy)
    rcases h with h | h
    · have := Int.mul_lt_mul_of_pos_right h hz
      omega
    · have := Int.mul_lt_mul_of_pos_right h hx
      omega
  · refine Int.eq_of_mul_eq_mul_right (by omega : sy ≠ 0) (?_ : ux * sz * sy = uz * sx * sy)
    rw [e1, e2, k1, e3, k2]
theorem kl_asym (x y : Key) (h : kl x y = true) : kl y x = false := by
  unfold kl at h ⊢
  rw [lex4_t] at h
  rw [← Bool.not_eq_true, lex4_t]
  omega
theorem kl_trans (x y z : Key) (hx : 0 < x.2.1) (hy : 0 < y.2.1) (hz : 0 < z.2.1) (h1 : kl y x = false) (h2 : kl z y = false) : kl z x = false := by
  unfold kl at h1 h2 ⊢
  rw [← Bool.not_eq_true, lex4_t] at h1 h2 ⊢
  have f := frac (ux := x.1) (uy := y.1) (uz := z.1) hx hy hz (by omega) (by omega)
  by_cases a : x.1 * y.2.1 < y.1 * x.2.1 ∨ y.1 * z.2.1 < z.1 * y.2.1
  · have := f.2.1 a
    omega
  · have := f.2.2 (by omega) (by omega)
    omega
/-- Two that stand not before each other are one. -/
theorem kl_eq (x y : Key) (h1 : kl x y = false) (h2 : kl y x = false) : x.2.2.2.2 = y.2.2.2.2 := by
  unfold kl at h1 h2
  rw [← Bool.not_eq_true, lex4_t] at h1 h2
  omega
/-! The heap of candidates, and the choice. -/
abbrev Desk5 : Type := Night × Mount_ × Progr × List (List Int) × List (List (Int × Int))
theorem up_eq (d : Desk5) (c : List Int) (l : List Cand_) (j : Int) : heap_up (d, c, l) j = if ((IntKind.i64.wrap (Int.tdiv (IntKind.i64.wrap (j - 1)) 2)) == j) = false then ((plan_queue_Less (d, c, l) j (IntKind.i64.wrap (Int.tdiv (IntKind.i64.wrap (j - 1)) 2))).bind fun r => if (!r) = true then some ((), d, c, l) else (plan_queue_Swap (d, c, l) (IntKind.i64.wrap (Int.tdiv (IntKind.i64.wrap (j - 1)) 2)) j).bind fun r1 => heap_up r1.2 (IntKind.i64.wrap (Int.tdiv (IntKind.i64.wrap (j - 1)) 2))) else some ((), d, c, l) := by
  rw [heap_up_eq, heap_up.p0_eq]
  simp only [heap_up_eq]
noncomputable def dn2 (d : Desk5) (c : List Int) (l : List Cand_) (i0 n i : Int) : Option (Bool × Desk5 × List Int × List Cand_) := heap_down.p2 i0 n i d.1.1.1 d.1.1.2 d.1.2.1.1 d.1.2.1.2.1 d.1.2.1.2.2.1 d.1.2.1.2.2.2 d.1.2.2.1 d.1.2.2.2.1 d.1.2.2.2.2.1 d.1.2.2.2.2.2.1.1 d.1.2.2.2.2.2.1.2.1 d.1.2.2.2.2.2.1.2.2 d.1.2.2.2.2.2.2.1.1 d.1.2.2.2.2.2.2.1.2.1 d.1.2.2.2.2.2.2.1.2.2 d.1.2.2.2.2.2.2.2.1 d.1.2.2.2.2.2.2.2.2 d.2.1.1.1 d.2.1.1.2.1 d.2.1.1.2.2.1 d.2.1.1.2.2.2 d.2.1.2.1.1 d.2.1.2.1.2.1 d.2.1.2.1.2.2.1 d.2.1.2.1.2.2.2 d.2.1.2.2.1 d.2.1.2.2.2 d.2.2.1.1 d.2.2.1.2 d.2.2.2.1 d.2.2.2.2 c l
noncomputable def dn8 (d : Desk5) (c : List Int) (l : List Cand_) (i0 n i j : Int) : Option (Bool × Desk5 × List Int × List Cand_) := heap_down.p8 i0 n i j d.1.1.1 d.1.1.2 d.1.2.1.1 d.1.2.1.2.1 d.1.2.1.2.2.1 d.1.2.1.2.2.2 d.1.2.2.1 d.1.2.2.2.1 d.1.2.2.2.2.1 d.1.2.2.2.2.2.1.1 d.1.2.2.2.2.2.1.2.1 d.1.2.2.2.2.2.1.2.2 d.1.2.2.2.2.2.2.1.1 d.1.2.2.2.2.2.2.1.2.1 d.1.2.2.2.2.2.2.1.2.2 d.1.2.2.2.2.2.2.2.1 d.1.2.2.2.2.2.2.2.2 d.2.1.1.1 d.2.1.1.2.1 d.2.1.1.2.2.1 d.2.1.1.2.2.2 d.2.1.2.1.1 d.2.1.2.1.2.1 d.2.1.2.1.2.2.1 d.2.1.2.1.2.2.2 d.2.1.2.2.1 d.2.1.2.2.2 d.2.2.1.1 d.2.2.1.2 d.2.2.2.1 d.2.2.2.2 c l
theorem down_eq (d : Desk5) (c : List Int) (l : List Cand_) (i0 n : Int) : heap_down (d, c, l) i0 n = dn2 d c l i0 n i0 := heap_down_eq ..
theorem dn2_eq (d : Desk5) (c : List Int) (l : List Cand_) (i0 n i : Int) : dn2 d c l i0 n i = if (decide ((IntKind.i64.wrap ((IntKind.i64.wrap (2 * i)) + 1)) ≥ n)) = false then (if (decide ((IntKind.i64.wrap ((IntKind.i64.wrap (2 * i)) + 1)) < 0)) = true then (some (decide (i > i0), d, c, l)) else (if (decide ((IntKind.i64.wrap ((IntKind.i64.wrap ((IntKind.i64.wrap (2 * i)) + 1)) + 1)) < n)) = true then ((plan_queue_Less (d, c, l) (IntKind.i64.wrap ((IntKind.i64.wrap ((IntKind.i64.wrap (2 * i)) + 1)) + 1)) (IntKind.i64.wrap ((IntKind.i64.wrap (2 * i)) + 1))).bind fun r => if r = true then (dn8 d c l i0 n i (IntKind.i64.wrap ((IntKind.i64.wrap ((IntKind.i64.wrap (2 * i)) + 1)) + 1))) else (dn8 d c l i0 n i (IntKind.i64.wrap ((IntKind.i64.wrap (2 * i)) + 1)))) else (dn8 d c l i0 n i (IntKind.i64.wrap ((IntKind.i64.wrap (2 * i)) + 1))))) else (some (decide (i > i0), d, c, l)) := heap_down.p2_eq ..
theorem dn8_eq (d : Desk5) (c : List Int) (l : List Cand_) (i0 n i j : Int) : dn8 d c l i0 n i j = (plan_queue_Less (d, c, l) j i).bind fun r => if (!r) = true then some (decide (i > i0), d, c, l) else (plan_queue_Swap (d, c, l) i j).bind fun r1 => dn2 r1.2.1 r1.2.2.1 r1.2.2.2 i0 n j := heap_down.p8_eq ..
theorem less_val {P : Cand_ → Prop} {lt : Cand_ → Cand_ → Bool} {d : Desk5} {c : List Int} (hb : ∀ x y, P x → P y → plan_Desk_better d c x y = some (lt x y)) (l : List Cand_) (hP : ∀ x, x ∈ l → P x) (i j : Nat) (hi : i < l.length) (hj : j < l.length) : plan_queue_Less (d, c, l) (i : Int) (j : Int) = some (lt (l.getD i (0, 0, (0, 0), 0, 0)) (l.getD j (0, 0, (0, 0), 0, 0))) := by
  rw [plan_queue_Less_eq]
  simp only [toNat_nat]
  rw [if_pos (show (0 : Int) ≤ (i : Int) by omega), if_pos (show (i : Int) < (l.length : Int) by omega), if_pos (show (0 : Int) ≤ (j : Int) by omega), if_pos (show (j : Int) < (l.length : Int) by omega), hb _ _ (hP _ ((mem_getD l (0, 0, (0, 0), 0, 0) _).2 ⟨i, hi, rfl⟩)) (hP _ ((mem_getD l (0, 0, (0, 0), 0, 0) _).2 ⟨j, hj, rfl⟩)), bind_some_]
theorem swap_val (d : Desk5) (c : List Int) (l : List Cand_) (i j : Nat) (hi : i < l.length) (hj : j < l.length) : plan_queue_Swap (d, c, l) (i : Int) (j : Int) = some ((), d, c, swp l (0, 0, (0, 0), 0, 0) i j) := by
  rw [plan_queue_Swap_eq]
  simp only [toNat_nat, List.length_set]
  simp only [if_pos (show (0 : Int) ≤ (i : Int) by omega), if_pos (show (i : Int) < (l.length : Int) by omega), if_pos (show (0 : Int) ≤ (j : Int) by omega), if_pos (show (j : Int) < (l.length : Int) by omega)]
  rfl
theorem up_run {P : Cand_ → Prop} {lt : Cand_ → Cand_ → Bool} (o : Ord P lt) {d : Desk5} {c : List Int} (hb : ∀ x y, P x → P y → plan_Desk_better d c x y = some (lt x y)) : ∀ (j : Nat) (l : List Cand_), l.length ≤ 100 → j < l.length → (∀ x, x ∈ l → P x) → UpInv lt (0, 0, (0, 0), 0, 0) l j → ∃ l', heap_up (d, c, l) (j : Int) = some ((), d, c, l') ∧ l'.length = l.length ∧ (∀ x, x ∈ l' ↔ x ∈ l) ∧ Hp lt (0, 0, (0, 0), 0, 0) l' := by
  intro j
  induction j using Nat.strongRecOn with
  | _ j ih =>
    intro l hl hj hP hi
    rw [up_eq]
    by_cases e : j = 0
    · subst e
      rw [if_neg (by decide)]
      exact ⟨l, rfl, rfl, fun _ => Iff.rfl, hi.done (.inl rfl)⟩
    · have hw : IntKind.i64.wrap (Int.tdiv (IntKind.i64.wrap ((j : Int) - 1)) 2) = (((j - 1) / 2 : Nat) : Int) := by
        rw [wi (x := (j : Int) - 1) (by omega) (by omega), Int.tdiv_eq_ediv_of_nonneg (by omega), wi (by omega) (by omega)]
        omega
      have hp : (j - 1) / 2 < l.length := by omega
      rw [hw, if_pos (show ((((j - 1) / 2 : Nat) : Int) == (j : Int)) = false by rw [← Bool.not_eq_true, eq_t]; omega), less_val hb l hP j _ hj hp, bind_some_]
      cases hlt : lt (l.getD j (0, 0, (0, 0), 0, 0)) (l.getD ((j - 1) / 2) (0, 0, (0, 0), 0, 0)) with
      | false =>
        rw [if_pos (by decide)]
        exact ⟨l, rfl, rfl, fun _ => Iff.rfl, hi.done (.inr hlt)⟩
      | true =>
        rw [if_neg (by decide), swap_val d c l _ j hp hj, bind_some_]
        obtain ⟨l', r1, r2, r3, r4⟩ := ih ((j - 1) / 2) (by omega) (swp l (0, 0, (0, 0), 0, 0) ((j - 1) / 2) j) (by rw [swp_len]; exact hl) (by rw [swp_len]; exact hp) (fun x hx => hP x ((swp_mem l (0, 0, (0, 0), 0, 0) _ _ hp hj x).1 hx)) (hi.step o hP (by omega) hj hlt)
        exact ⟨l', r1, by rw [r2, swp_len], fun x => (r3 x).trans (swp_mem l (0, 0, (0, 0), 0, 0) _ _ hp hj x), r4⟩
theorem down_run {P : Cand_ → Prop} {lt : Cand_ → Cand_ → Bool} {d : Desk5} {c : List Int} (hb : ∀ x y, P x → P y → plan_Desk_better d c x y = some (lt x y)) (i0 : Int) (k : Nat) : ∀ (u i : Nat) (l : List Cand_), k - i = u → l.length ≤ 100 → k ≤ l.length → i ≤ k → (∀ x, x ∈ l → P x) → ∃ b l', dn2 d c l i0 (k : Int) (i : Int) = some (b, d, c, l') ∧ l'.length = l.length ∧ ∀ q, k ≤ q → l'.getD q (0, 0, (0, 0), 0, 0) = l.getD q (0, 0, (0, 0), 0, 0) := by
  intro u
  induction u using Nat.strongRecOn with
  | _ u ih =>
    intro i l hu hl hk hik hP
    have h1 : IntKind.i64.wrap ((IntKind.i64.wrap (2 * (i : Int))) + 1) = ((2 * i + 1 : Nat) : Int) := by
      rw [wi (x := 2 * (i : Int)) (by omega) (by omega), wi (by omega) (by omega)]
      omega
    have h2 : IntKind.i64.wrap (((2 * i + 1 : Nat) : Int) + 1) = ((2 * i + 2 : Nat) : Int) := by
      rw [wi (by omega) (by omega)]
      omega
    rw [dn2_eq, h1, h2]
    have step : ∀ j : Nat, i < j → j < k → ∃ b l', dn8 d c l i0 (k : Int) (i : Int) (j : Int) = some (b, d, c, l') ∧ l'.length = l.length ∧ ∀ q, k ≤ q → l'.getD q (0, 0, (0, 0), 0, 0) = l.getD q (0, 0, (0, 0), 0, 0) := by
      intro j hij hjk
      rw [dn8_eq, less_val hb l hP j i (by omega) (by omega), bind_some_]
      cases lt (l.getD j (0, 0, (0, 0), 0, 0)) (l.getD i (0, 0, (0, 0), 0, 0)) with
      | false =>
        rw [if_pos (by decide)]
        exact ⟨_, l, rfl, rfl, fun _ _ => rfl⟩
      | true =>
        rw [if_neg (by decide), swap_val d c l i j (by omega) (by omega), bind_some_]
        obtain ⟨b, l', r1, r2, r3⟩ := ih (k - j) (by omega) j (swp l (0, 0, (0, 0), 0, 0) i j) rfl (by rw [swp_len]; exact hl) (by rw [swp_len]; exact hk) (by omega) (fun x hx => hP x ((swp_mem l (0, 0, (0, 0), 0, 0) _ _ (by omega) (by omega) x).1 hx))
        refine ⟨b, l', r1, by rw [r2, swp_len], fun q hq => ?_⟩
        rw [r3 q hq, swp_at l (0, 0, (0, 0), 0, 0) i j q (by omega) (by omega), if_neg (by omega), if_neg (by omega)]
    by_cases e1 : 2 * i + 1 < k
    · rw [if_pos (show decide (((2 * i + 1 : Nat) : Int) ≥ (k : Int)) = false by rw [df]; omega), if_neg (show ¬ decide (((2 * i + 1 : Nat) : Int) < 0) = true by rw [dt]; omega)]
      by_cases e2 : 2 * i + 2 < k
      · rw [if_pos (show decide (((2 * i + 2 : Nat) : Int) < (k : Int)) = true by rw [dt]; omega), less_val hb l hP _ _ (by omega) (by omega), bind_some_]
        cases lt (l.getD (2 * i + 2) (0, 0, (0, 0), 0, 0)) (l.getD (2 * i + 1) (0, 0, (0, 0), 0, 0)) with
        | true =>
          rw [if_pos rfl]
          exact step _ (by omega) e2
        | false =>
          rw [if_neg (by decide)]
          exact step _ (by omega) e1
      · rw [if_neg (show ¬ decide (((2 * i + 2 : Nat) : Int) < (k : Int)) = true by rw [dt]; omega)]
        exact step _ (by omega) e1
    · rw [if_neg (show ¬ decide (((2 * i + 1 : Nat) : Int) ≥ (k : Int)) = false by rw [df]; omega)]
      exact ⟨_, l, rfl, rfl, fun _ _ => rfl⟩
theorem push_run {P : Cand_ → Prop} {lt : Cand_ → Cand_ → Bool} (o : Ord P lt) {d : Desk5} {c : List Int} (hb : ∀ x y, P x → P y → plan_Desk_better d c x y = some (lt x y)) (l : List Cand_) (x : Cand_) (hl : l.length < 100) (hP : ∀ x, x ∈ l → P x) (hx : P x) (hi : Hp lt (0, 0, (0, 0), 0, 0) l) : ∃ l', heap_Push (d, c, l) x.1 x.2.1 x.2.2.1.1 x.2.2.1.2 x.2.2.2.1 x.2.2.2.2 = some ((), d, c, l') ∧ l'.length = l.length + 1 ∧ (∀ y, y ∈ l' ↔ y ∈ l ∨ y = x) ∧ Hp lt (0, 0, (0, 0), 0, 0) l' := by
  rw [heap_Push_eq, plan_queue_Push_eq, if_pos (by simp only; omega), bind_some_, plan_queue_Len_eq, bind_some_]
  simp only
  have hlen : ((l ++ [x]).length : Int) = (l.length : Int) + 1 := by simp
  have hw : IntKind.i64.wrap (((l ++ [x]).length : Int) - 1) = (l.length : Int) := by
    rw [hlen, wi (by omega) (by omega)]
    omega
  obtain ⟨l', r1, r2, r3, r4⟩ := up_run o hb l.length (l ++ [x]) (by simp; omega) (by simp) (fun y hy => by
    rcases List.mem_append.1 hy with q | q
    · exact hP y q
    · rw [List.mem_singleton.1 q]; exact hx) (UpInv.push hi x)
  have e : (x.1, x.2.1, (x.2.2.1.1, x.2.2.1.2), x.2.2.2.1, x.2.2.2.2) = x := rfl
  rw [e, hw, r1, bind_some_]
  exact ⟨l', rfl, by rw [r2]; simp, fun y => by rw [r3, List.mem_append, List.mem_singleton], r4⟩
theorem pop_run {P : Cand_ → Prop} {lt : Cand_ → Cand_ → Bool} {d : Desk5} {c : List Int} (hb : ∀ x y, P x → P y → plan_Desk_better d c x y = some (lt x y)) (l : List Cand_) (hl : l.length ≤ 100) (h0 : 0 < l.length) (hP : ∀ x, x ∈ l → P x) : ∃ q, heap_Pop (d, c, l) = some (l.getD 0 (0, 0, (0, 0), 0, 0), q) := by
  have hw : IntKind.i64.wrap ((l.length : Int) - 1) = ((l.length - 1 : Nat) : Int) := by
    rw [wi (by omega) (by omega)]
    omega
  rw [heap_Pop_eq, plan_queue_Len_eq, bind_some_]
  simp only
  rw [hw, show (0 : Int) = ((0 : Nat) : Int) from rfl, swap_val d c l 0 (l.length - 1) h0 (by omega), bind_some_]
  simp only
  rw [down_eq]
  obtain ⟨b, l', r1, r2, r3⟩ := down_run hb ((0 : Nat) : Int) (l.length - 1) _ 0 (swp l (0, 0, (0, 0), 0, 0) 0 (l.length - 1)) rfl (by rw [swp_len]; exact hl) (by rw [swp_len]; omega) (by omega) (fun x hx => hP x ((swp_mem l (0, 0, (0, 0), 0, 0) _ _ h0 (by omega) x).1 hx))
  rw [r1, bind_some_, plan_queue_Pop_eq]
  simp only
  rw [swp_len] at r2
  rw [r2, hw]
  simp only [toNat_nat]
  rw [if_pos (by omega), if_pos (by omega), if_pos (by omega), if_pos (by omega), bind_some_, r3 _ (Nat.le_refl _), swp_at l (0, 0, (0, 0), 0, 0) 0 (l.length - 1) _ h0 (by omega), if_pos rfl]
  exact ⟨_, rfl⟩
/-! Shares and what is used; the order of candidates; the choice; the plan. -/
theorem share_p5 (p : Progr) (h6 : p.1.length ≤ 6) : ∀ (u k : Nat) (b : List (ByteArray × Bool)), p.1.length - k = u → k ≤ p.1.length → prop_Check.p5 p.1 p.1.length k p b = some 0 → ∀ j, k ≤ j → j < p.1.length → 1 ≤ (p.1.getD j (ByteArray.empty, 0)).2 ∧ (p.1.getD j (ByteArray.empty, 0)).2 ≤ 100 := by
  intro u
  induction u with
  | zero => intro k b hu hk h j h1 h2; omega
  | succ u ih =>
    intro k b hu hk h j h1 h2
    rw [prop_Check.p5_eq, if_pos (by rw [dt]; omega), if_pos (by omega), if_pos (by omega), toNat_nat, Option.bind_eq_some_iff] at h
    obtain ⟨e, he, h⟩ := h
    by_cases he0 : e = 0
    · subst he0
      rw [if_neg (by decide)] at h
      by_cases hl : ((lookM .str .bool (p.1.getD k (ByteArray.empty, 0)).1 b).getD false) = true
      · rw [if_pos hl] at h
        simp at h
      · rw [if_neg hl, wi_nat (by omega)] at h
        by_cases e : j = k
        · subst e
          rw [prop_CheckProposal_eq, Option.bind_eq_some_iff] at he
          obtain ⟨q, _, he⟩ := he
          by_cases hq : (!q) = true
          · rw [if_pos hq] at he
            simp at he
          · rw [if_neg hq, Option.bind_eq_some_iff] at he
            obtain ⟨z, hz, he⟩ := he
            by_cases hz0 : (!z) = true
            · rw [if_pos hz0] at he
              simp at he
            · have hz1 : z = true := by simpa using hz0
              subst hz1
              rw [prop_within_eq] at hz
              by_cases hw : decide ((1 : Int) ≤ (p.1.getD j (ByteArray.empty, 0)).2) = true
              · rw [if_pos hw] at hz
                rw [dt] at hw
                have := Option.some.inj hz
                rw [dt] at this
                exact ⟨hw, this⟩
              · rw [if_neg hw] at hz
                simp at hz
        · exact ih (k + 1) _ (by omega) (by omega) h j (by omega) h2
    · rw [if_pos (show (e != 0) = true by rw [ne_t]; exact he0)] at h
      exact absurd (Option.some.inj h) he0
theorem share_of {p : Progr} (h : prop_Check p = some 0) (pk : ProgOk p) {j : Nat} (hj : j < p.1.length) : 1 ≤ (p.1.getD j (ByteArray.empty, 0)).2 ∧ (p.1.getD j (ByteArray.empty, 0)).2 ≤ 100 := by
  have h1 := pk.names
  have h2 := pk.reqs
  rw [prop_Check_eq, if_pos (show decide ((p.1.length : Int) > 6) = false by rw [df]; omega), if_neg (show ¬ decide ((p.2.length : Int) > 16) = true by rw [dt]; omega)] at h
  exact share_p5 p h1 _ 0 [] rfl (by omega) h j (by omega) hj
theorem used_range {n : Night} {p : Progr} (pk : ProgOk p) {s : State_} (st : StOk n p s) (a : Int) : ∀ (u k : Nat) (x y : Int), p.2.length - k = u → k ≤ p.2.length → 0 ≤ x → x ≤ 32 * (k : Int) → spyref2_Table_UsedBy.p3 a x p.2 p.2.length k s = some y → 0 ≤ y ∧ y ≤ 512 := by
  have hr := pk.reqs
  intro u
  induction u with
  | zero =>
    intro k x y hu hk h0 h1 h
    rw [spyref2_Table_UsedBy.p3_eq, if_neg (by rw [dt]; omega)] at h
    have := Option.some.inj h
    omega
  | succ u ih =>
    intro k x y hu hk h0 h1 h
    have hlt : k < p.2.length := by omega
    have rl := req_len pk hlt
    have hv := st.vis k hlt
    have hl := st.len
    rw [spyref2_Table_UsedBy.p3_eq, if_pos (by rw [dt]; omega), if_pos (by omega), if_pos (by omega), toNat_nat, wi_nat (by omega)] at h
    by_cases c : ((p.2.getD k (0, 0, (0, 0, 0), 0, 0, 0, 0, 0, 0, 0, 0)).2.1 == a) = true
    · rw [if_pos c, if_pos (by omega), if_pos (by omega)] at h
      have b1 : (p.2.getD k (0, 0, (0, 0, 0), 0, 0, 0, 0, 0, 0, 0, 0)).2.2.2.1 * ((s.2.2.getD k []).length : Int) ≤ 8 * 4 := Int.mul_le_mul (by omega) (by omega) (by omega) (by omega)
      have b0 : 0 ≤ (p.2.getD k (0, 0, (0, 0, 0), 0, 0, 0, 0, 0, 0, 0, 0)).2.2.2.1 * ((s.2.2.getD k []).length : Int) := Int.mul_nonneg (by omega) (by omega)
      rw [wi (x := (p.2.getD k (0, 0, (0, 0, 0), 0, 0, 0, 0, 0, 0, 0, 0)).2.2.2.1 * ((s.2.2.getD k []).length : Int)) (by omega) (by omega), wi (by omega) (by omega)] at h
      exact ih (k + 1) _ y (by omega) (by omega) (by omega) (by omega) h
    · rw [if_neg c] at h
      exact ih (k + 1) x y (by omega) (by omega) h0 (by omega) h
def keyOf (p : Progr) (c : List Int) (x : Cand_) : Key := (c.getD (p.2.getD x.1.toNat (0, 0, (0, 0, 0), 0, 0, 0, 0, 0, 0, 0, 0)).2.1.toNat 0, (p.1.getD (p.2.getD x.1.toNat (0, 0, (0, 0, 0), 0, 0, 0, 0, 0, 0, 0, 0)).2.1.toNat (ByteArray.empty, 0)).2, (p.2.getD x.1.toNat (0, 0, (0, 0, 0), 0, 0, 0, 0, 0, 0, 0, 0)).2.2.2.2.2.2.2.2.2.2, x.2.1, x.1)
def InP (p : Progr) (x : Cand_) : Prop := 0 ≤ x.1 ∧ x.1 < (p.2.length : Int)
def ltc (p : Progr) (c : List Int) (x y : Cand_) : Bool := kl (keyOf p c x) (keyOf p c y)
theorem some_lex (A B wa wb sa sb ia ib : Int) : (if (A != B) = true then some (decide (A < B)) else if (wa != wb) = true then some (decide (wa > wb)) else if (sa != sb) = true then some (decide (sa < sb)) else some (decide (ia < ib))) = some (lex4 A B wa wb sa sb ia ib) := by
  unfold lex4
  split
  · rfl
  · split
    · rfl
    · split <;> rfl
theorem better_val {n : Night} {m : Mount_} {p : Progr} {cl : List (List Int)} {aim : List (List (Int × Int))} (hp : prop_Check p = some 0) (pk : ProgOk p) {s : State_} (st : StOk n p s) {c : List Int} (uo : UsedOk n m p cl s c) (x y : Cand_) (hx : InP p x) (hy : InP p y) : plan_Desk_better (n, m, p, cl, aim) c x y = some (ltc p c x y) := by
  obtain ⟨hx0, hx1⟩ := hx
  obtain ⟨hy0, hy1⟩ := hy
  have p1 := req_prop pk (j := x.1.toNat) (by omega)
  have p2 := req_prop pk (j := y.1.toNat) (by omega)
  have hl := uo.len
  have used : ∀ j : Nat, j < p.1.length → 0 ≤ c.getD j 0 ∧ c.getD j 0 ≤ 512 := fun j hj => by
    have := uo.by_ j hj
    rw [spyref2_Table_UsedBy_eq] at this
    exact used_range pk st _ _ 0 0 _ rfl (by omega) (by omega) (by omega) this
  have s1 := share_of hp pk (j := (p.2.getD x.1.toNat (0, 0, (0, 0, 0), 0, 0, 0, 0, 0, 0, 0, 0)).2.1.toNat) (by omega)
  have s2 := share_of hp pk (j := (p.2.getD y.1.toNat (0, 0, (0, 0, 0), 0, 0, 0, 0, 0, 0, 0, 0)).2.1.toNat) (by omega)
  have u1 := used (p.2.getD x.1.toNat (0, 0, (0, 0, 0), 0, 0, 0, 0, 0, 0, 0, 0)).2.1.toNat (by omega)
  have u2 := used (p.2.getD y.1.toNat (0, 0, (0, 0, 0), 0, 0, 0, 0, 0, 0, 0, 0)).2.1.toNat (by omega)
  unfold ltc kl keyOf
  rw [plan_Desk_better_eq]
  simp only
  obtain ⟨r, hR⟩ : ∃ r, (p.2.getD x.1.toNat (0, 0, (0, 0, 0), 0, 0, 0, 0, 0, 0, 0, 0)) = r := ⟨_, rfl⟩
  obtain ⟨t, hT⟩ : ∃ t, (p.2.getD y.1.toNat (0, 0, (0, 0, 0), 0, 0, 0, 0, 0, 0, 0, 0)) = t := ⟨_, rfl⟩
  rw [hR] at p1 s1 u1 ⊢
  rw [hT] at p2 s2 u2 ⊢
  rw [if_pos hx0, if_pos hx1, if_pos hy0, if_pos hy1, if_pos (show 0 ≤ r.2.1 by omega), if_pos (show r.2.1 < (c.length : Int) by omega), if_pos (show 0 ≤ t.2.1 by omega), if_pos (show t.2.1 < (p.1.length : Int) by omega), if_pos (show 0 ≤ t.2.1 by omega), if_pos (show t.2.1 < (c.length : Int) by omega), if_pos (show 0 ≤ r.2.1 by omega), if_pos (show r.2.1 < (p.1.length : Int) by omega)]
  have m1 : c.getD r.2.1.toNat 0 * (p.1.getD t.2.1.toNat (ByteArray.empty, 0)).2 ≤ 512 * 100 := Int.mul_le_mul u1.2 s2.2 (by omega) (by omega)
  have m2 : c.getD t.2.1.toNat 0 * (p.1.getD r.2.1.toNat (ByteArray.empty, 0)).2 ≤ 512 * 100 := Int.mul_le_mul u2.2 s1.2 (by omega) (by omega)
  have m3 : 0 ≤ c.getD r.2.1.toNat 0 * (p.1.getD t.2.1.toNat (ByteArray.empty, 0)).2 := Int.mul_nonneg u1.1 (by omega)
  have m4 : 0 ≤ c.getD t.2.1.toNat 0 * (p.1.getD r.2.1.toNat (ByteArray.empty, 0)).2 := Int.mul_nonneg u2.1 (by omega)
  rw [wi (x := c.getD r.2.1.toNat 0 * (p.1.getD t.2.1.toNat (ByteArray.empty, 0)).2) (by omega) (by omega), wi (x := c.getD t.2.1.toNat 0 * (p.1.getD r.2.1.toNat (ByteArray.empty, 0)).2) (by omega) (by omega)]
  exact some_lex ..
theorem ord_ltc {p : Progr} (hp : prop_Check p = some 0) (pk : ProgOk p) (c : List Int) : Ord (InP p) (ltc p c) := by
  have pos : ∀ x : Cand_, InP p x → 0 < (keyOf p c x).2.1 := fun x hx => by
    have p1 := req_prop pk (j := x.1.toNat) (by have := hx.1; have := hx.2; omega)
    have := share_of hp pk (j := (p.2.getD x.1.toNat (0, 0, (0, 0, 0), 0, 0, 0, 0, 0, 0, 0, 0)).2.1.toNat) (by omega)
    show 0 < (p.1.getD (p.2.getD x.1.toNat (0, 0, (0, 0, 0), 0, 0, 0, 0, 0, 0, 0, 0)).2.1.toNat (ByteArray.empty, 0)).2
    omega
  exact ⟨fun x y _ _ h => kl_asym _ _ h, fun x y z hx hy hz h1 h2 => kl_trans _ _ _ (pos x hx) (pos y hy) (pos z hz) h1 h2⟩
noncomputable def ch3 (t20 t21 : Int) (d2 : Desk5) (s3 : State_) (b4 : Cand_) (d : Desk5) (c : List Int) (l : List Cand_) : Option (Cand_ × Bool) := plan_Desk_choose.p3 t20 t21 d2 s3 b4 d.1.1.1 d.1.1.2 d.1.2.1.1 d.1.2.1.2.1 d.1.2.1.2.2.1 d.1.2.1.2.2.2 d.1.2.2.1 d.1.2.2.2.1 d.1.2.2.2.2.1 d.1.2.2.2.2.2.1.1 d.1.2.2.2.2.2.1.2.1 d.1.2.2.2.2.2.1.2.2 d.1.2.2.2.2.2.2.1.1 d.1.2.2.2.2.2.2.1.2.1 d.1.2.2.2.2.2.2.1.2.2 d.1.2.2.2.2.2.2.2.1 d.1.2.2.2.2.2.2.2.2 d.2.1.1.1 d.2.1.1.2.1 d.2.1.1.2.2.1 d.2.1.1.2.2.2 d.2.1.2.1.1 d.2.1.2.1.2.1 d.2.1.2.1.2.2.1 d.2.1.2.1.2.2.2 d.2.1.2.2.1 d.2.1.2.2.2 d.2.2.1.1 d.2.2.1.2 d.2.2.2.1 d.2.2.2.2 c l
theorem choose_ch3 (d : Desk5) (s : State_) : plan_Desk_choose d s = (plan_Used d.2.2.1 s).bind fun r => ch3 (d.2.2.1.2.length : Int) 0 d s (0, 0, (0, 0), 0, 0) d r [] := plan_Desk_choose_eq ..
theorem ch3_eq (t20 t21 : Int) (d2 : Desk5) (s3 : State_) (b4 : Cand_) (d : Desk5) (c : List Int) (l : List Cand_) : ch3 t20 t21 d2 s3 b4 d c l = if (decide (t21 < t20)) = true then ((plan_Desk_look d2 s3 t21).bind fun r => if (r.2 == 0) = true then ((heap_Push (d, c, l) r.1.1 r.1.2.1 r.1.2.2.1.1 r.1.2.2.1.2 r.1.2.2.2.1 r.1.2.2.2.2).bind fun r1 => ch3 t20 (IntKind.i64.wrap (t21 + 1)) d2 s3 b4 r1.2.1 r1.2.2.1 r1.2.2.2) else (ch3 t20 (IntKind.i64.wrap (t21 + 1)) d2 s3 b4 d c l)) else ((plan_queue_Len (d, c, l)).bind fun r2 => if (r2 == 0) = true then (some ((0, 0, (0, 0), 0, 0), false)) else ((heap_Pop (d, c, l)).bind fun r3 => some (r3.1, true))) := plan_Desk_choose.p3_eq ..
def Cd (f : Nat → Cand_ × Int) (k : Nat) (x : Cand_) : Prop := ∃ j, j < k ∧ (f j).2 = 0 ∧ x = (f j).1
theorem cd_succ (f : Nat → Cand_ × Int) (k : Nat) (x : Cand_) : Cd f (k + 1) x ↔ Cd f k x ∨ ((f k).2 = 0 ∧ x = (f k).1) := by
  constructor
  · rintro ⟨j, h1, h2, h3⟩
    by_cases e : j = k
    · subst e
      exact .inr ⟨h2, h3⟩
    · exact .inl ⟨j, by omega, h2, h3⟩
  · rintro (⟨j, h1, h2, h3⟩ | ⟨h2, h3⟩)
    · exact ⟨j, by omega, h2, h3⟩
    · exact ⟨k, by omega, h2, h3⟩
theorem choose_run {n : Night} {m : Mount_} {p : Progr} {cl : List (List Int)} {aim : List (List (Int × Int))} (hp : prop_Check p = some 0) (pk : ProgOk p) {s : State_} (st : StOk n p s) {c : List Int} (uo : UsedOk n m p cl s c) {f : Nat → Cand_ × Int} (hf : ∀ j, j < p.2.length → plan_Desk_look (n, m, p, cl, aim) s (j : Int) = some (f j) ∧ spyref2_Table_Look (n, m, p, cl) s (j : Int) = some (f j) ∧ ((f j).2 = 0 → (f j).1.1 = (j : Int))) (b : Cand_) : ∀ (u k : Nat) (l : List Cand_), p.2.length - k = u → k ≤ p.2.length → l.length ≤ k → Hp (ltc p c) (0, 0, (0, 0), 0, 0) l → (∀ x, x ∈ l ↔ Cd f k x) → ∃ r, ch3 p.2.length k (n, m, p, cl, aim) s b (n, m, p, cl, aim) c l = some r ∧ ((r.2 = false ∧ ∀ x, ¬ Cd f p.2.length x) ∨ (r.2 = true ∧ Cd f p.2.length r.1 ∧ ∀ x, Cd f p.2.length x → ltc p c x r.1 = false)) := by
  have hr := pk.reqs
  have inP : ∀ k, k ≤ p.2.length → ∀ x, Cd f k x → InP p x := fun k hk x ⟨j, h1, h2, h3⟩ => by
    have := (hf j (by omega)).2.2 h2
    subst h3
    exact ⟨by omega, by omega⟩
  have hb := fun x y => better_val (aim := aim) hp pk st uo x y
  have o := ord_ltc hp pk c
  intro u
  induction u with
  | zero =>
    intro k l hu hk hl hh hmem
    have ek : k = p.2.length := by omega
    subst ek
    rw [ch3_eq, if_neg (by rw [dt]; omega), plan_queue_Len_eq, bind_some_]
    simp only
    have hP : ∀ x, x ∈ l → InP p x := fun x hx => inP _ (Nat.le_refl _) x ((hmem x).1 hx)
    by_cases e : l.length = 0
    · rw [if_pos (show ((l.length : Int) == 0) = true by rw [eq_t]; omega)]
      refine ⟨_, rfl, .inl ⟨rfl, fun x hx => ?_⟩⟩
      have := List.length_pos_of_mem ((hmem x).2 hx)
      omega
    · rw [if_neg (show ¬ ((l.length : Int) == 0) = true by rw [eq_t]; omega)]
      obtain ⟨q, hq⟩ := pop_run hb l (by omega) (by omega) hP
      rw [hq, bind_some_]
      refine ⟨_, rfl, .inr ⟨rfl, (hmem _).1 ((mem_getD l (0, 0, (0, 0), 0, 0) _).2 ⟨0, by omega, rfl⟩), fun x hx => ?_⟩⟩
      obtain ⟨j, hj, e⟩ := (mem_getD l (0, 0, (0, 0), 0, 0) x).1 ((hmem x).2 hx)
      rw [← e]
      exact hh.min o hP j hj
  | succ u ih =>
    intro k l hu hk hl hh hmem
    have hlt : k < p.2.length := by omega
    obtain ⟨f1, f2, f3⟩ := hf k hlt
    rw [ch3_eq, if_pos (by rw [dt]; omega), f1, bind_some_, wi_nat (by omega)]
    by_cases z : (f k).2 = 0
    · rw [if_pos (show ((f k).2 == 0) = true by rw [eq_t]; exact z)]
      obtain ⟨l', r1, r2, r3, r4⟩ := push_run o hb l (f k).1 (by omega) (fun x hx => inP _ hk x ((hmem x).1 hx)) ⟨by rw [f3 z]; omega, by rw [f3 z]; omega⟩ hh
      rw [r1, bind_some_]
      exact ih (k + 1) l' (by omega) (by omega) (by omega) r4 (fun x => by rw [r3, hmem, cd_succ]; exact ⟨fun h => h.imp id fun e => ⟨z, e⟩, fun h => h.imp id fun e => e.2⟩)
    · rw [if_neg (show ¬ ((f k).2 == 0) = true by rw [eq_t]; exact z)]
      exact ih (k + 1) l (by omega) (by omega) (by omega) hh (fun x => by rw [hmem, cd_succ]; exact ⟨.inl, fun h => h.resolve_right fun e => z e.1⟩)
theorem best_run {n : Night} {m : Mount_} {p : Progr} {cl : List (List Int)} {aim : List (List (Int × Int))} (hp : prop_Check p = some 0) (pk : ProgOk p) {s : State_} (st : StOk n p s) {c : List Int} (uo : UsedOk n m p cl s c) {f : Nat → Cand_ × Int} (hf : ∀ j, j < p.2.length → plan_Desk_look (n, m, p, cl, aim) s (j : Int) = some (f j) ∧ spyref2_Table_Look (n, m, p, cl) s (j : Int) = some (f j) ∧ ((f j).2 = 0 → (f j).1.1 = (j : Int))) (b : Cand_) : ∀ (u k : Nat) (found : Bool) (best : Cand_), p.2.length - k = u → k ≤ p.2.length → ((found = false ∧ ∀ x, ¬ Cd f k x) ∨ (found = true ∧ Cd f k best ∧ ∀ x, Cd f k x → ltc p c x best = false)) → ∃ best' found', spyref2_Table_Best.p4 found p.2.length k (n, m, p, cl) s b best = some (best', found') ∧ ((found' = false ∧ ∀ x, ¬ Cd f p.2.length x) ∨ (found' = true ∧ Cd f p.2.length best' ∧ ∀ x, Cd f p.2.length x → ltc p c x best' = false)) := by
  have hr := pk.reqs
  have inP : ∀ k, k ≤ p.2.length → ∀ x, Cd f k x → InP p x := fun k hk x ⟨j, h1, h2, h3⟩ => by
    have := (hf j (by omega)).2.2 h2
    subst h3
    exact ⟨by omega, by omega⟩
  have o := ord_ltc hp pk c
  intro u
  induction u with
  | zero =>
    intro k found best hu hk h
    have ek : k = p.2.length := by omega
    subst ek
    rw [spyref2_Table_Best.p4_eq, if_neg (by rw [dt]; omega)]
    exact ⟨_, _, rfl, h⟩
  | succ u ih =>
    intro k found best hu hk h
    have hlt : k < p.2.length := by omega
    have hu' : p.2.length - (k + 1) = u := by omega
    have hk' : k + 1 ≤ p.2.length := by omega
    obtain ⟨f1, f2, f3⟩ := hf k hlt
    rw [spyref2_Table_Best.p4_eq, if_pos (by rw [dt]; omega), f2, bind_some_, wi_nat (by omega)]
    by_cases z : (f k).2 = 0
    · rw [if_pos (show ((f k).2 == 0) = true by rw [eq_t]; exact z)]
      have new : Cd f (k + 1) (f k).1 := (cd_succ f k _).2 (.inr ⟨z, rfl⟩)
      have inN : InP p (f k).1 := inP _ hk' _ new
      rcases h with ⟨rfl, h⟩ | ⟨rfl, h1, h2⟩
      · rw [if_neg (show ¬ (!false) = false by decide)]
        refine ih (k + 1) true (f k).1 hu' hk' (.inr ⟨rfl, new, fun x hx => ?_⟩)
        rcases (cd_succ f k x).1 hx with q | q
        · exact absurd q (h x)
        · rw [q.2]
          exact o.irr _ inN
      · rw [if_pos (show (!true) = false by decide)]
        have inB := inP _ hk _ h1
        obtain ⟨j, hj, hj0, hjb⟩ := h1
        obtain ⟨q, q1, q2⟩ := better_same (aim := aim) pk uo (f k).1 best k j (f3 z) (by rw [hjb]; exact (hf j (by omega)).2.2 hj0) hlt (by omega)
        have qv := better_val (aim := aim) hp pk st uo (f k).1 best inN inB
        rw [qv] at q1
        have eq := Option.some.inj q1
        rw [q2, bind_some_, ← eq]
        cases hlt2 : ltc p c (f k).1 best with
        | true =>
          rw [if_pos rfl]
          refine ih (k + 1) true (f k).1 hu' hk' (.inr ⟨rfl, new, fun x hx => ?_⟩)
          rcases (cd_succ f k x).1 hx with q | q
          · exact o.trans _ _ _ inN inB (inP _ hk _ q) (o.asym _ _ inN inB hlt2) (h2 x q)
          · rw [q.2]
            exact o.irr _ inN
        | false =>
          rw [if_neg (by decide)]
          refine ih (k + 1) true best hu' hk' (.inr ⟨rfl, (cd_succ f k _).2 (.inl ⟨j, hj, hj0, hjb⟩), fun x hx => ?_⟩)
          rcases (cd_succ f k x).1 hx with q | q
          · exact h2 x q
          · rw [q.2]
            exact hlt2
    · rw [if_neg (show ¬ ((f k).2 == 0) = true by rw [eq_t]; exact z)]
      have same : ∀ x, Cd f (k + 1) x ↔ Cd f k x := fun x => by rw [cd_succ]; exact ⟨fun h => h.resolve_right fun e => z e.1, .inl⟩
      refine ih (k + 1) found best hu' hk' ?_
      rcases h with ⟨h0, h⟩ | ⟨h0, h1, h2⟩
      · exact .inl ⟨h0, fun x hx => h x ((same x).1 hx)⟩
      · exact .inr ⟨h0, (same _).2 h1, fun x hx => h2 x ((same x).1 hx)⟩
theorem choose_same {n : Night} {m : Mount_} {p : Progr} {cl : List (List Int)} {aim : List (List (Int × Int))} (hn : prop_CheckNight n = some 0) (hm : slew_CheckMount m = some 0) (ok : NightOk n) (mk : MtOk m) (pk : ProgOk p) (dk : DeskOk n p cl aim) (hp : prop_Check p = some 0) {s : State_} (st : StOk n p s) : ∃ x b y, plan_Desk_choose (n, m, p, cl, aim) s = some (x, b) ∧ spyref2_Table_Best (n, m, p, cl) s = some (y, b) ∧ (b = true → x = y ∧ ∃ i a : Nat, i < p.2.length ∧ x.1 = (i : Int) ∧ x.2.1 = (a : Int) ∧ s.1 ≤ (a : Int) ∧ (a : Int) + (p.2.getD i (0, 0, (0, 0, 0), 0, 0, 0, 0, 0, 0, 0, 0)).2.2.2.1 ≤ n.2.2.2.2.1 ∧ ((s.2.2.getD i []).length : Int) < (p.2.getD i (0, 0, (0, 0, 0), 0, 0, 0, 0, 0, 0, 0, 0)).2.2.2.2.1) := by
  have hslot := st.slot
  obtain ⟨c, uo⟩ := used_ok (m := m) (cl := cl) hp pk st
  obtain ⟨f, hf⟩ := looks_all hn hm ok mk pk dk st
  obtain ⟨r, r1, r2⟩ := choose_run hp pk st uo hf (0, 0, (0, 0), 0, 0) _ 0 [] rfl (by omega) (by simp) (fun k _ hk => by simp at hk) (fun x => ⟨fun h => (by cases h), fun ⟨j, hj, _⟩ => absurd hj (Nat.not_lt_zero _)⟩)
  obtain ⟨y, fd, b1, b2⟩ := best_run hp pk st uo hf (0, 0, (0, 0), 0, 0) _ 0 false (0, 0, (0, 0), 0, 0) rfl (by omega) (.inl ⟨rfl, fun x ⟨j, hj, _⟩ => absurd hj (Nat.not_lt_zero _)⟩)
  rw [show ((0 : Nat) : Int) = 0 from rfl] at r1 b1
  refine ⟨r.1, r.2, y, by rw [choose_ch3, uo.used, bind_some_, r1], ?_, ?_⟩
  · rw [spyref2_Table_Best_eq, b1]
    congr 2
    rcases r2 with ⟨e, h⟩ | ⟨e, h, _⟩ <;> rcases b2 with ⟨e', h'⟩ | ⟨e', h', _⟩
    · rw [e, e']
    · exact absurd h' (h _)
    · exact absurd h (h' _)
    · rw [e, e']
  · intro hb
    rcases r2 with ⟨e, _⟩ | ⟨_, h, h2⟩
    · rw [e] at hb
      cases hb
    rcases b2 with ⟨_, h'⟩ | ⟨_, h', h2'⟩
    · exact absurd h (h' _)
    have e := kl_eq _ _ (h2' _ h) (h2 _ h')
    obtain ⟨j, hj, hj0, hjx⟩ := h
    obtain ⟨j', hj', hj0', hjy⟩ := h'
    have e1 : r.1.1 = (j : Int) := by rw [hjx]; exact (hf j hj).2.2 hj0
    have e2 : y.1 = (j' : Int) := by rw [hjy]; exact (hf j' hj').2.2 hj0'
    have e3 : r.1.1 = y.1 := e
    have ej : j = j' := by omega
    subst ej
    obtain ⟨g, g1, _, g3⟩ := look_same hn hm ok mk pk dk st j hj
    rw [(hf j hj).1] at g1
    cases g1
    obtain ⟨k1, k2, k3, k4⟩ := g3 hj0
    rw [← hjx] at k2 k3
    exact ⟨by rw [hjx, hjy], j, r.1.2.1.toNat, hj, e1, by omega, by omega, by omega, k4⟩
theorem take_slot {n : Night} {m : Mount_} {p : Progr} {cl : List (List Int)} {aim : List (List (Int × Int))} {s q : State_} {c : Cand_} {x : Int × Int × Int × Int} (h : plan_Desk_take (n, m, p, cl, aim) s c = some (x, q)) : q.1 = IntKind.i64.wrap (c.2.1 + (p.2.getD c.1.toNat (0, 0, (0, 0, 0), 0, 0, 0, 0, 0, 0, 0, 0)).2.2.2.1) := by
  rw [plan_Desk_take_eq] at h
  simp only [Option.ite_none_right_eq_some] at h
  obtain ⟨_, _, _, _, _, _, _, _, h⟩ := h
  have := Option.some.inj h
  exact (congrArg (fun z : (Int × Int × Int × Int) × State_ => z.2.1) this).symm
theorem from_run {n : Night} {m : Mount_} {p : Progr} {cl : List (List Int)} {aim : List (List (Int × Int))} (hn : prop_CheckNight n = some 0) (hm : slew_CheckMount m = some 0) (ok : NightOk n) (mk : MtOk m) (pk : ProgOk p) (dk : DeskOk n p cl aim) (hp : prop_Check p = some 0) : ∀ (u : Nat) (s : State_) (out : List (Int × Int × Int × Int)), (n.2.2.2.2.1 - s.1).toNat = u → StOk n p s → (out.length : Int) ≤ s.1 → ∃ l, plan_Desk_From.p6 (n, m, p, cl, aim) s.1 s.2.1.1 s.2.1.2 out s.2.2 = some (l, 0) ∧ spyref2_Table_Plan.p2 (n, m, p, cl) s out = some l ∧ (l.length : Int) ≤ 64 := by
  have h64 := ok.slots
  intro u
  induction u using Nat.strongRecOn with
  | _ u ih =>
    intro s out hu st ho
    have hslot := st.slot
    rw [plan_Desk_From.p6_eq, spyref2_Table_Plan.p2_eq]
    simp only
    by_cases c : s.1 < n.2.2.2.2.1
    · rw [if_pos (by rw [dt]; exact c), if_pos (by rw [dt]; exact c)]
      obtain ⟨x, b, y, c1, c2, c3⟩ := choose_same hn hm ok mk pk dk hp st
      rw [c1, c2, bind_some_, bind_some_]
      cases b with
      | false =>
        rw [if_pos (show (!false) = true by decide), if_pos (show (!false) = true by decide), wi (x := s.1 + 1) (by omega) (by omega)]
        exact ih _ (by omega) (s.1 + 1, s.2) out rfl ⟨⟨by simp only; omega, by simp only; omega⟩, st.len, st.vis⟩ (by simp only; omega)
      | true =>
        obtain ⟨rfl, i, a, hi, h1, h2, h3, h4, h5⟩ := c3 rfl
        have rl := req_len pk hi
        obtain ⟨x0, q, t1, t2, t3, _, t4⟩ := take_after (m := m) (cl := cl) (aim := aim) ok pk st i hi a h4 h5 x.2.2.1 x.2.2.1 x.2.2.2
        have ex : ((i : Int), (a : Int), x.2.2.1, x.2.2.2) = x := by rw [← h1, ← h2]
        have hq := take_slot t1
        rw [ex] at t1 t2 hq
        rw [h1, h2, toNat_nat, wi (by omega) (by omega)] at hq
        rw [if_neg (show ¬ (!true) = true by decide), if_neg (show ¬ (!true) = true by decide), t1, bind_some_, if_pos (by omega), if_pos (by rw [h1]; omega), if_pos (by rw [h1]; omega), if_pos (by omega), t2, bind_some_, h1, toNat_nat, h2, ← t4]
        exact ih _ (by omega) q (out ++ [x0]) rfl t3 (by rw [List.length_append, List.length_singleton]; omega)
    · rw [if_neg (by rw [dt]; exact c), if_neg (by rw [dt]; exact c)]
      exact ⟨out, rfl, rfl, by omega⟩
theorem eqv_p4 (l : List (Int × Int × Int × Int)) (hl : l.length ≤ 64) : ∀ (u k : Nat), l.length - k = u → k ≤ l.length → slices_Equal_api_Visit.p4 l l l.length k = some true := by
  intro u
  induction u with
  | zero => intro k hu hk; rw [slices_Equal_api_Visit.p4_eq, if_neg (by rw [dt]; omega)]
  | succ u ih =>
    intro k hu hk
    rw [slices_Equal_api_Visit.p4_eq, if_pos (by rw [dt]; omega), if_pos (by omega), if_pos (by omega), if_pos (by omega), if_pos (by omega), if_neg (by simp), wi_nat (by omega)]
    exact ih (k + 1) (by omega) (by omega)
theorem eqv_same (l : List (Int × Int × Int × Int)) (hl : (l.length : Int) ≤ 64) : slices_Equal_api_Visit l l = some true := by
  rw [slices_Equal_api_Visit_eq, if_neg (by simp)]
  exact eqv_p4 l (by omega) _ 0 rfl (by omega)

end Go.Proofs.YtdcbapdakaaeoaaGreat.Pure
