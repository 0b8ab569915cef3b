/- PlanLooks: the pure statement, proved. -/
import Derived.Test.YtionphbdphbpnaaGreatEA0
import Derived.Test.YtionphbdphbpnaaGreatEA1
import Derived.Test.YtionphbdphbpnaaGreatEA2
import Derived.Test.YtionphbdphbpnaaGreatEA3
import Derived.Test.YtionphbdphbpnaaGreatEA4
import Derived.Test.YtionphbdphbpnaaGreatEA5
import Derived.Test.YtionphbdphbpnaaGreatEA6
import Derived.Test.YtionphbdphbpnaaGreatEA7
import Derived.Test.YtionphbdphbpnaaGreatPl
import Derived.Test.YtionphbdphbpnaaGreatLemA
import Derived.Test.YtionphbdphbpnaaGreatLemB
import Derived.Test.YtionphbdphbpnaaGreatLemC
namespace Go.Proofs.YtionphbdphbpnaaGreat.Pure
set_option linter.unusedVariables false
set_option linter.unusedSimpArgs false
open Go Go.RowKit Go.Proofs.YtionphbdphbpnaaGreat.Pv Go.Proofs.YtionphbdphbpnaaGreat.Pl Go.Proofs.YtionphbdphbpnaaGreat.EA

theorem used_p5 (p : Progr) (ok : ProgOk p) (s : State_) (hs : s.2.2.length = p.2.length) : ∀ (u k : Nat) (b : List Int), p.2.length - k = u → k ≤ p.2.length → b.length = p.1.length → ∃ c : List Int, c.length = p.1.length ∧ plan_Used.p5 p.2 p.2.length k s b = some c ∧ ∀ j : Nat, (h : j < c.length) → spyref2_Table_UsedBy.p3 j (b.getD j 0) p.2 p.2.length k s = some c[j] := by
  have hr := ok.reqs
  intro u
  induction u with
  | zero =>
    intro k b hu hk hb
    refine ⟨b, hb, by rw [plan_Used.p5_eq, if_neg (by rw [dt]; omega)], fun j h => ?_⟩
    rw [spyref2_Table_UsedBy.p3_eq, if_neg (by rw [dt]; omega), getD_nat _ _ h]
  | succ u ih =>
    intro k b hu hk hb
    have hlt : k < p.2.length := by omega
    obtain ⟨_, g0, g1, _⟩ := ok.at_ k hlt
    have up : ∀ j : Nat, ∀ x : Int, spyref2_Table_UsedBy.p3 j x p.2 p.2.length k s = if p.2[k].2.1 = (j : Int) then spyref2_Table_UsedBy.p3 j (IntKind.i64.wrap (x + (IntKind.i64.wrap (p.2[k].2.2.2.1 * ((s.2.2.getD k []).length : Int))))) p.2 p.2.length ((k + 1 : Nat) : Int) s else spyref2_Table_UsedBy.p3 j x p.2 p.2.length ((k + 1 : Nat) : Int) s := by
      intro j x
      rw [spyref2_Table_UsedBy.p3_eq]
      simp only [if_pos (show decide ((k : Int) < (p.2.length : Int)) = true by rw [dt]; omega), if_pos (show (0 : Int) ≤ k by omega), if_pos (show (k : Int) < p.2.length by omega), if_pos (show (k : Int) < s.2.2.length by omega), toNat_nat, getD_nat _ _ hlt, wi_nat (show k < 9223372036854775807 by omega), eq_t]
    obtain ⟨c, c1, c2, c3⟩ := ih (k + 1) (b.set p.2[k].2.1.toNat (IntKind.i64.wrap ((b.getD p.2[k].2.1.toNat 0) + (IntKind.i64.wrap (p.2[k].2.2.2.1 * ((s.2.2.getD k []).length : Int)))))) (by omega) (by omega) (by simp [hb])
    refine ⟨c, c1, ?_, fun j h => ?_⟩
    · rw [plan_Used.p5_eq]
      simp only [if_pos (show decide ((k : Int) < (p.2.length : Int)) = true by rw [dt]; omega), if_pos (show (0 : Int) ≤ k by omega), if_pos (show (k : Int) < p.2.length by omega), if_pos (show (k : Int) < s.2.2.length by omega), toNat_nat, getD_nat _ _ hlt, wi_nat (show k < 9223372036854775807 by omega), if_pos g0, if_pos (show p.2[k].2.1 < (b.length : Int) by omega)]
      exact c2
    · have := c3 j h
      rw [up]
      by_cases e : p.2[k].2.1 = (j : Int)
      · rw [if_pos e]
        rw [e, toNat_nat] at this
        have es : (b.set j (IntKind.i64.wrap ((b.getD j 0) + (IntKind.i64.wrap (p.2[k].2.2.2.1 * ((s.2.2.getD k []).length : Int)))))).getD j 0 = IntKind.i64.wrap ((b.getD j 0) + (IntKind.i64.wrap (p.2[k].2.2.2.1 * ((s.2.2.getD k []).length : Int)))) := by
          rw [getD_nat _ _ (by simp; omega)]
          simp
        rw [es] at this
        exact this
      · rw [if_neg e]
        have es : ∀ v : Int, (b.set p.2[k].2.1.toNat v).getD j 0 = b.getD j 0 := by
          intro v
          rw [getD_nat _ _ (by simp; omega), getD_nat _ _ (by omega), List.getElem_set_ne (by omega)]
        rw [es] at this
        exact this
/-! Candidates. -/
abbrev Cand_ : Type := Int × Int × (Int × Int) × Int × Int
theorem open_look {n : Night} {m : Mount_} {p : Progr} {cl : List (List Int)} {aim : List (List (Int × Int))} (dk : DeskOk n p cl aim) (b c : Cand_) (q : Int × Int) (r : Req) (i : Nat) (hi : i < p.2.length) (a : Nat) (L : Nat) (hL : r.2.2.2.1 = (L : Int)) (hs : (a : Int) + L ≤ n.2.2.2.2.1) (h64 : n.2.2.2.2.1 ≤ 64) : ∀ (u k : Nat), L - k = u → k ≤ L →
    (spyref2_Table_AllOpen.p2 i a L k (n, m, p, cl) = some false ∧ plan_Desk_look.p15 i a ((a + k : Nat) : Int) (n, m, p, cl, aim) b r q c = some (c, 5)) ∨
    (spyref2_Table_AllOpen.p2 i a L k (n, m, p, cl) = some true ∧ plan_Desk_look.p15 i a ((a + k : Nat) : Int) (n, m, p, cl, aim) b r q c = plan_Desk_look.p15 i a ((a + L : Nat) : Int) (n, m, p, cl, aim) b r q c) := by
  have hc := (dk.c i hi).2
  have hlc := dk.lc
  intro u
  induction u with
  | zero =>
    intro k hu hk
    obtain rfl : k = L := by omega
    refine .inr ⟨?_, rfl⟩
    rw [spyref2_Table_AllOpen.p2_eq, if_neg (by rw [dt]; omega)]
  | succ u ih =>
    intro k hu hk
    have e1 : spyref2_Table_AllOpen.p2 i a L k (n, m, p, cl) = if ((cl.getD i []).getD (a + k) 0 != 0) = true then some false else spyref2_Table_AllOpen.p2 i a L ((k + 1 : Nat) : Int) (n, m, p, cl) := by
      rw [spyref2_Table_AllOpen.p2_eq]
      simp only
      rw [if_pos (by rw [dt]; omega), if_pos (by omega), if_pos (by omega), wi (x := (a : Int) + k) (by omega) (by omega), if_pos (by omega), toNat_nat, if_pos (by omega), wi_nat (by omega), show ((a : Int) + (k : Int)).toNat = a + k by omega]
    have e2 : plan_Desk_look.p15 i a ((a + k : Nat) : Int) (n, m, p, cl, aim) b r q c = if ((cl.getD i []).getD (a + k) 0 != 0) = true then some (c, 5) else plan_Desk_look.p15 i a ((a + (k + 1) : Nat) : Int) (n, m, p, cl, aim) b r q c := by
      rw [plan_Desk_look.p15_eq]
      simp only
      rw [hL, wi (x := (a : Int) + L) (by omega) (by omega), if_pos (by rw [dt]; omega), if_pos (by omega), if_pos (by omega), if_pos (by omega), toNat_nat, if_pos (by omega), toNat_nat, wi_nat (by omega)]
      rfl
    rw [e1, e2]
    by_cases z : ((cl.getD i []).getD (a + k) 0 != 0) = true
    · rw [if_pos z, if_pos z]
      exact .inl ⟨rfl, rfl⟩
    · rw [if_neg z, if_neg z]
      exact ih (k + 1) (by omega) (by omega)
/-- The first slot at which the mount can be there. -/
theorem reach_run {n : Night} {m : Mount_} {p : Progr} {cl : List (List Int)} {aim : List (List (Int × Int))} (hn : prop_CheckNight n = some 0) (ok : NightOk n) (pk : ProgOk p) (dk : DeskOk n p cl aim) (s : State_) (i : Nat) (hi : i < p.2.length) (h0 : 0 ≤ s.1) (b : Int × Int) (b' : Cand_) : ∀ (u k : Nat), n.2.2.2.2.1.toNat + 1 - k = u → s.1 ≤ (k : Int) → (k : Int) ≤ n.2.2.2.2.1 + 1 →
    (∃ (k' : Nat) (q : Int × Int), s.1 ≤ (k' : Int) ∧ (k' : Int) + (p.2.getD i (0, 0, (0, 0, 0), 0, 0, 0, 0, 0, 0, 0, 0)).2.2.2.1 ≤ n.2.2.2.2.1 ∧ plan_Desk_reach.p2 i k (n, m, p, cl, aim) s b = some ((k' : Int), q, true) ∧ spyref2_Table_Look.p6 i k (n, m, p, cl) s b' (p.2.getD i (0, 0, (0, 0, 0), 0, 0, 0, 0, 0, 0, 0, 0)) ((i : Int), (-1), (0, 0), 0, 0) = spyref2_Table_Look.p13 i (n, m, p, cl) s b' (p.2.getD i (0, 0, (0, 0, 0), 0, 0, 0, 0, 0, 0, 0, 0)) ((i : Int), (k' : Int), q, 0, 0)) ∨
    (plan_Desk_reach.p2 i k (n, m, p, cl, aim) s b = some (0, (0, 0), false) ∧ spyref2_Table_Look.p6 i k (n, m, p, cl) s b' (p.2.getD i (0, 0, (0, 0, 0), 0, 0, 0, 0, 0, 0, 0, 0)) ((i : Int), (-1), (0, 0), 0, 0) = some ((0, 0, (0, 0), 0, 0), 2)) := by
  have hs := ok.slots
  have rl := req_len pk hi
  have la := dk.la
  obtain ⟨al, ak⟩ := dk.a i hi
  have none_ : spyref2_Table_Look.p13 i (n, m, p, cl) s b' (p.2.getD i (0, 0, (0, 0, 0), 0, 0, 0, 0, 0, 0, 0, 0)) ((i : Int), (-1), (0, 0), 0, 0) = some ((0, 0, (0, 0), 0, 0), 2) := by
    rw [spyref2_Table_Look.p13_eq, if_pos (by rw [dt]; simp only; omega)]
  intro u
  induction u with
  | zero =>
    intro k hu h1 h2
    refine .inr ⟨?_, ?_⟩
    · rw [plan_Desk_reach.p2_eq]
      simp only [toNat_nat]
      rw [if_pos (by omega), if_pos (by omega), wi (x := n.2.2.2.2.1 - (p.2.getD i (0, 0, (0, 0, 0), 0, 0, 0, 0, 0, 0, 0, 0)).2.2.2.1) (by omega) (by omega), if_neg (by rw [dt]; omega)]
    · rw [spyref2_Table_Look.p6_eq, wi (x := (k : Int) + (p.2.getD i (0, 0, (0, 0, 0), 0, 0, 0, 0, 0, 0, 0, 0)).2.2.2.1) (by omega) (by omega)]
      simp only
      rw [if_neg (by rw [dt]; omega)]
      exact none_
  | succ u ih =>
    intro k hu h1 h2
    by_cases c : (k : Int) + (p.2.getD i (0, 0, (0, 0, 0), 0, 0, 0, 0, 0, 0, 0, 0)).2.2.2.1 ≤ n.2.2.2.2.1
    · have am := ak k (by omega)
      have wt := aim_wf am
      obtain ⟨x, x1, _, _, _⟩ := to_def m s.2.1 ((aim.getD i []).getD k (0, 0)) wt.1 wt.2
      obtain ⟨y, y1⟩ := slots_def hn ok x.2.1
      have w1 : IntKind.i64.wrap ((k : Int) - s.1) = (k : Int) - s.1 := wi (by omega) (by omega)
      have e1 : plan_Desk_reach.p2 i k (n, m, p, cl, aim) s b = if (x.2.2 == 0) = true then (if decide (y ≤ (k : Int) - s.1) = true then some ((k : Int), x.1, true) else plan_Desk_reach.p2 i ((k + 1 : Nat) : Int) (n, m, p, cl, aim) s b) else plan_Desk_reach.p2 i ((k + 1 : Nat) : Int) (n, m, p, cl, aim) s b := by
        rw [plan_Desk_reach.p2_eq]
        simp only [toNat_nat]
        rw [if_pos (by omega), if_pos (by omega), wi (x := n.2.2.2.2.1 - (p.2.getD i (0, 0, (0, 0, 0), 0, 0, 0, 0, 0, 0, 0, 0)).2.2.2.1) (by omega) (by omega), if_pos (by rw [dt]; omega), if_pos (by omega), if_pos (by omega), if_pos (by omega), if_pos (by omega), x1, bind_some_, y1, bind_some_, w1, wi_nat (by omega)]
      have e2 : spyref2_Table_Look.p6 i k (n, m, p, cl) s b' (p.2.getD i (0, 0, (0, 0, 0), 0, 0, 0, 0, 0, 0, 0, 0)) ((i : Int), (-1), (0, 0), 0, 0) = if (x.2.2 == 0) = true then (if decide (y ≤ (k : Int) - s.1) = true then spyref2_Table_Look.p6 i ((k + 1 : Nat) : Int) (n, m, p, cl) s b' (p.2.getD i (0, 0, (0, 0, 0), 0, 0, 0, 0, 0, 0, 0, 0)) ((i : Int), (k : Int), x.1, 0, 0) else spyref2_Table_Look.p6 i ((k + 1 : Nat) : Int) (n, m, p, cl) s b' (p.2.getD i (0, 0, (0, 0, 0), 0, 0, 0, 0, 0, 0, 0, 0)) ((i : Int), (-1), (0, 0), 0, 0)) else spyref2_Table_Look.p6 i ((k + 1 : Nat) : Int) (n, m, p, cl) s b' (p.2.getD i (0, 0, (0, 0, 0), 0, 0, 0, 0, 0, 0, 0, 0)) ((i : Int), (-1), (0, 0), 0, 0) := by
        rw [spyref2_Table_Look.p6_eq, wi (x := (k : Int) + (p.2.getD i (0, 0, (0, 0, 0), 0, 0, 0, 0, 0, 0, 0, 0)).2.2.2.1) (by omega) (by omega)]
        simp only
        rw [if_pos (by rw [dt]; omega), if_pos (by rw [dt]; omega), am, bind_some_, if_neg (show ¬ ((0 : Int) != 0) = true by decide), x1, bind_some_, y1, bind_some_, w1, wi_nat (by omega)]
      rw [e1, e2]
      by_cases z : (x.2.2 == 0) = true
      · rw [if_pos z, if_pos z]
        by_cases z2 : decide (y ≤ (k : Int) - s.1) = true
        · rw [if_pos z2, if_pos z2]
          refine .inl ⟨k, x.1, h1, c, rfl, ?_⟩
          rw [spyref2_Table_Look.p6_eq]
          by_cases z3 : decide ((IntKind.i64.wrap (((k + 1 : Nat) : Int) + (p.2.getD i (0, 0, (0, 0, 0), 0, 0, 0, 0, 0, 0, 0, 0)).2.2.2.1)) ≤ n.2.2.2.2.1) = true
          · rw [if_pos z3, if_neg (by rw [dt]; simp only; omega)]
          · rw [if_neg z3]
        · rw [if_neg z2, if_neg z2]
          exact ih (k + 1) (by omega) (by omega) (by omega)
      · rw [if_neg z, if_neg z]
        exact ih (k + 1) (by omega) (by omega) (by omega)
    · refine .inr ⟨?_, ?_⟩
      · rw [plan_Desk_reach.p2_eq]
        simp only [toNat_nat]
        rw [if_pos (by omega), if_pos (by omega), wi (x := n.2.2.2.2.1 - (p.2.getD i (0, 0, (0, 0, 0), 0, 0, 0, 0, 0, 0, 0, 0)).2.2.2.1) (by omega) (by omega), if_neg (by rw [dt]; omega)]
      · rw [spyref2_Table_Look.p6_eq, wi (x := (k : Int) + (p.2.getD i (0, 0, (0, 0, 0), 0, 0, 0, 0, 0, 0, 0, 0)).2.2.2.1) (by omega) (by omega)]
        simp only
        rw [if_neg (by rw [dt]; omega)]
        exact none_
theorem look_same {n : Night} {m : Mount_} {p : Progr} {cl : List (List Int)} {aim : List (List (Int × Int))} (hn : prop_CheckNight n = some 0) (hm : slew_CheckMount m = some 0) (ok : NightOk n) (mk : MtOk m) (pk : ProgOk p) (dk : DeskOk n p cl aim) {s : State_} (st : StOk n p s) (i : Nat) (hi : i < p.2.length) :
    ∃ f : Cand_ × Int, plan_Desk_look (n, m, p, cl, aim) s i = some f ∧ spyref2_Table_Look (n, m, p, cl) s i = some f ∧ (f.2 = 0 → f.1.1 = (i : Int) ∧ s.1 ≤ f.1.2.1 ∧ f.1.2.1 + (p.2.getD i (0, 0, (0, 0, 0), 0, 0, 0, 0, 0, 0, 0, 0)).2.2.2.1 ≤ n.2.2.2.2.1 ∧ ((s.2.2.getD i []).length : Int) < (p.2.getD i (0, 0, (0, 0, 0), 0, 0, 0, 0, 0, 0, 0, 0)).2.2.2.2.1) := by
  have hr := pk.reqs
  have h64 := ok.slots
  have hl := st.len
  have hslot := st.slot
  have rl := req_len pk hi
  have hvis := st.vis i hi
  have hrf := req_fault pk hi
  have lc := dk.lc
  have run := fun b b' => reach_run (m := m) hn ok pk dk s i hi hslot.1 b b' _ s.1.toNat rfl (by omega) (by omega)
  rw [show ((s.1.toNat : Nat) : Int) = s.1 by omega] at run
  rw [plan_Desk_look_eq, spyref2_Table_Look_eq, plan_Desk_reach_eq]
  simp only [toNat_nat]
  rw [if_pos (show (0 : Int) ≤ (i : Int) by omega), if_pos (show (i : Int) < (p.2.length : Int) by omega), if_pos (show (0 : Int) ≤ (i : Int) by omega), if_pos (show (i : Int) < (s.2.2.length : Int) by omega)]
  rw [if_pos (show (0 : Int) ≤ (i : Int) by omega), if_pos (show (i : Int) < (p.2.length : Int) by omega), if_pos (show (0 : Int) ≤ (i : Int) by omega), if_pos (show (i : Int) < (s.2.2.length : Int) by omega)]
  obtain ⟨r, hR⟩ : ∃ r, p.2.getD i (0, 0, (0, 0, 0), 0, 0, 0, 0, 0, 0, 0, 0) = r := ⟨_, rfl⟩
  obtain ⟨l, hS⟩ : ∃ l, s.2.2.getD i [] = l := ⟨_, rfl⟩
  rw [hR] at rl hvis hrf run ⊢
  rw [hS] at hvis ⊢
  have bad : ∀ (c : Cand_) (e : Int), e ≠ 0 → ∀ {x y : Option (Cand_ × Int)}, x = some (c, e) → y = some (c, e) → ∃ f : Cand_ × Int, x = some f ∧ y = some f ∧ (f.2 = 0 → f.1.1 = (i : Int) ∧ s.1 ≤ f.1.2.1 ∧ f.1.2.1 + r.2.2.2.1 ≤ n.2.2.2.2.1 ∧ (l.length : Int) < r.2.2.2.2.1) := fun c e he x y hx hy => ⟨_, hx, hy, fun k => absurd k he⟩
  by_cases c1 : (l.length : Int) = r.2.2.2.2.1
  · rw [if_pos (show decide ((l.length : Int) ≥ r.2.2.2.2.1) = true by rw [dt]; omega), if_pos (show ((l.length : Int) == r.2.2.2.2.1) = true by rw [eq_t]; exact c1)]
    exact bad _ 1 (by decide) rfl rfl
  rw [if_neg (show ¬ decide ((l.length : Int) ≥ r.2.2.2.2.1) = true by rw [dt]; omega), if_neg (show ¬ ((l.length : Int) == r.2.2.2.2.1) = true by rw [eq_t]; exact c1)]
  rcases run (0, 0) (0, 0, (0, 0), 0, 0) with ⟨a, q, a1, a2, a3, a4⟩ | ⟨a3, a4⟩
  · rw [a3, a4, bind_some_]
    simp only
    rw [if_neg (show ¬ (!true) = true by decide), spyref2_Table_Look.p13_eq]
    simp only [toNat_nat]
    rw [hS, if_neg (show ¬ decide ((a : Int) < 0) = true by rw [dt]; omega)]
    rw [if_pos (show (0 : Int) ≤ (i : Int) by omega), if_pos (show (i : Int) < (s.2.2.length : Int) by omega)]
    obtain ⟨L, hL⟩ : ∃ L : Nat, r.2.2.2.1 = (L : Int) := ⟨r.2.2.2.1.toNat, by omega⟩
    have tail : ∃ f : Cand_ × Int, plan_Desk_look.p15 (i : Int) (a : Int) (a : Int) (n, m, p, cl, aim) (0, 0, (0, 0), 0, 0) r q ((i : Int), (a : Int), q, 0, 0) = some f ∧ spyref2_Table_Look.p22 (i : Int) (n, m, p, cl) (0, 0, (0, 0), 0, 0) r ((i : Int), (a : Int), q, 0, 0) = some f ∧ (f.2 = 0 → f.1.1 = (i : Int) ∧ s.1 ≤ f.1.2.1 ∧ f.1.2.1 + r.2.2.2.1 ≤ n.2.2.2.2.1 ∧ (l.length : Int) < r.2.2.2.2.1) := by
      rw [spyref2_Table_Look.p22_eq]
      simp only
      have eo : spyref2_Table_AllOpen (n, m, p, cl) (i : Int) (a : Int) = spyref2_Table_AllOpen.p2 i a L 0 (n, m, p, cl) := by
        rw [spyref2_Table_AllOpen_eq]
        simp only
        rw [if_pos (by omega), if_pos (by omega), toNat_nat, hR, hL]
      have run := open_look (m := m) dk (0, 0, (0, 0), 0, 0) ((i : Int), (a : Int), q, 0, 0) q r i hi a L hL (by omega) (by omega) _ 0 rfl (by omega)
      rw [show ((0 : Nat) : Int) = 0 from rfl, Nat.add_zero] at run
      rw [eo]
      rcases run with ⟨o1, o2⟩ | ⟨o1, o2⟩
      · rw [o1, o2, bind_some_, if_pos (by decide)]
        exact bad _ 5 (by decide) rfl rfl
      · rw [o1, o2, bind_some_, if_neg (by decide), plan_Desk_look.p15_eq]
        simp only
        rw [hL, wi (x := (a : Int) + L) (by omega) (by omega), if_neg (by rw [dt]; omega)]
        obtain ⟨t, t1, t2⟩ := track_def m n q r.2.2.1 (a : Int) ((a : Int) + L) hm hn ok mk (request_dir hrf)
        simp only [t1, bind_some_]
        by_cases z3 : t.2 = 0
        · have n1 : ¬ (t.2 != 0) = true := by rw [ne_t]; exact fun q => q z3
          rw [if_neg n1]
          exact ⟨_, rfl, rfl, fun _ => ⟨rfl, a1, by simp only; omega, by omega⟩⟩
        · have n1 : (t.2 != 0) = true := by rw [ne_t]; exact z3
          rw [if_pos n1]
          exact ⟨_, rfl, rfl, fun k => absurd k (show ¬ ((6 : Int) = 0) by decide)⟩
    by_cases c6 : (l.length : Int) > 0
    · have wl : IntKind.i64.wrap ((l.length : Int) - 1) = (l.length : Int) - 1 := wi (by omega) (by omega)
      rw [if_pos (show decide ((l.length : Int) > 0) = true by rw [dt]; exact c6), if_pos (show decide ((l.length : Int) > 0) = true by rw [dt]; exact c6)]
      simp only [wl]
      rw [if_pos (show (0 : Int) ≤ (i : Int) by omega), if_pos (show (i : Int) < (s.2.2.length : Int) by omega)]
      rw [if_pos (show 0 ≤ (l.length : Int) - 1 by omega), if_pos (show (l.length : Int) - 1 < (l.length : Int) by omega), if_pos (show 0 ≤ (l.length : Int) - 1 by omega), if_pos (show (l.length : Int) - 1 < (l.length : Int) by omega)]
      obtain ⟨g, hg⟩ : ∃ g, g = IntKind.i64.wrap ((a : Int) - l.getD ((l.length : Int) - 1).toNat 0) := ⟨_, rfl⟩
      rw [← hg]
      by_cases c8 : decide (g < r.2.2.2.2.2.1) = true
      · rw [if_pos c8, if_pos c8]
        exact bad _ 3 (by decide) rfl rfl
      · rw [if_neg c8, if_neg c8]
        by_cases c9 : decide (g > r.2.2.2.2.2.2.1) = true
        · rw [if_pos c9, if_pos c9]
          exact bad _ 4 (by decide) rfl rfl
        · rw [if_neg c9, if_neg c9]
          exact tail
    · rw [if_neg (show ¬ decide ((l.length : Int) > 0) = true by rw [dt]; exact c6), if_neg (show ¬ decide ((l.length : Int) > 0) = true by rw [dt]; exact c6)]
      exact tail
  · rw [a3, a4, bind_some_, if_pos (show (!false) = true by decide)]
    exact bad _ 2 (by decide) rfl rfl
theorem prop_part {n : Night} {m : Mount_} {p : Progr} (h : plan_CheckAll n m p = some 0) : prop_Check p = some 0 := by
  obtain ⟨h1, h2, _⟩ := all_parts h
  obtain ⟨e, e1, _⟩ := prog_same p
  rw [plan_CheckAll_eq, h1, bind_some_, if_neg (by decide), h2, bind_some_, if_neg (by decide), e1, bind_some_] at h
  rw [e1, Option.some.inj h]
structure UsedOk (n : Night) (m : Mount_) (p : Progr) (cl : List (List Int)) (s : State_) (c : List Int) : Prop where
  used : plan_Used p s = some c
  len : c.length = p.1.length
  by_ : ∀ j, j < p.1.length → spyref2_Table_UsedBy (n, m, p, cl) s (j : Int) = some (c.getD j 0)
theorem used_ok {n : Night} {m : Mount_} {p : Progr} {cl : List (List Int)} (hp : prop_Check p = some 0) (pk : ProgOk p) {s : State_} (st : StOk n p s) : ∃ c, UsedOk n m p cl s c := by
  have hq := pk.names
  obtain ⟨c, c1, c2, c3⟩ := used_p5 p pk s st.len _ 0 (List.replicate p.1.length 0) rfl (by omega) (by simp)
  rw [show ((0 : Nat) : Int) = 0 from rfl] at c2
  refine ⟨c, ?_, c1, fun j hj => ?_⟩
  · have hl := st.len
    rw [plan_Used_eq, hp, bind_some_, if_pos (by decide), if_neg (by rw [ne_t]; omega), if_pos rfl, if_pos (by omega), if_pos (by omega), c2]
  · have := c3 j (by omega)
    rw [show ((0 : Nat) : Int) = 0 from rfl] at this
    rw [spyref2_Table_UsedBy_eq]
    simp only
    rw [getD_nat _ _ (show j < c.length by omega), ← this]
    congr 1
    rw [List.getD_eq_getElem?_getD, List.getElem?_replicate, if_pos hj]
    rfl
theorem req_prop {p : Progr} (ok : ProgOk p) {j : Nat} (h : j < p.2.length) : 0 ≤ (p.2.getD j (0, 0, (0, 0, 0), 0, 0, 0, 0, 0, 0, 0, 0)).2.1 ∧ (p.2.getD j (0, 0, (0, 0, 0), 0, 0, 0, 0, 0, 0, 0, 0)).2.1 < (p.1.length : Int) := by
  rw [getD_nat _ _ h]
  exact ⟨(ok.at_ j h).2.1, (ok.at_ j h).2.2.1⟩
theorem better_same {n : Night} {m : Mount_} {p : Progr} {cl : List (List Int)} {aim : List (List (Int × Int))} (pk : ProgOk p) {s : State_} {c : List Int} (uo : UsedOk n m p cl s c) (x y : Cand_) (i k : Nat) (hx : x.1 = (i : Int)) (hy : y.1 = (k : Int)) (hi : i < p.2.length) (hk : k < p.2.length) : ∃ b, plan_Desk_better (n, m, p, cl, aim) c x y = some b ∧ spyref2_Table_Better (n, m, p, cl) s x y = some b := by
  have p1 := req_prop pk hi
  have p2 := req_prop pk hk
  have hl := uo.len
  have e1 : spyref2_Table_UsedBy (n, m, p, cl) s (p.2.getD i (0, 0, (0, 0, 0), 0, 0, 0, 0, 0, 0, 0, 0)).2.1 = some (c.getD (p.2.getD i (0, 0, (0, 0, 0), 0, 0, 0, 0, 0, 0, 0, 0)).2.1.toNat 0) := by
    have := uo.by_ (p.2.getD i (0, 0, (0, 0, 0), 0, 0, 0, 0, 0, 0, 0, 0)).2.1.toNat (by omega)
    rw [show (((p.2.getD i (0, 0, (0, 0, 0), 0, 0, 0, 0, 0, 0, 0, 0)).2.1.toNat : Nat) : Int) = (p.2.getD i (0, 0, (0, 0, 0), 0, 0, 0, 0, 0, 0, 0, 0)).2.1 by omega] at this
    exact this
  have e2 : spyref2_Table_UsedBy (n, m, p, cl) s (p.2.getD k (0, 0, (0, 0, 0), 0, 0, 0, 0, 0, 0, 0, 0)).2.1 = some (c.getD (p.2.getD k (0, 0, (0, 0, 0), 0, 0, 0, 0, 0, 0, 0, 0)).2.1.toNat 0) := by
    have := uo.by_ (p.2.getD k (0, 0, (0, 0, 0), 0, 0, 0, 0, 0, 0, 0, 0)).2.1.toNat (by omega)
    rw [show (((p.2.getD k (0, 0, (0, 0, 0), 0, 0, 0, 0, 0, 0, 0, 0)).2.1.toNat : Nat) : Int) = (p.2.getD k (0, 0, (0, 0, 0), 0, 0, 0, 0, 0, 0, 0, 0)).2.1 by omega] at this
    exact this
  rw [plan_Desk_better_eq, spyref2_Table_Better_eq, hx, hy]
  simp only [toNat_nat]
  obtain ⟨r, hR⟩ : ∃ r, p.2.getD i (0, 0, (0, 0, 0), 0, 0, 0, 0, 0, 0, 0, 0) = r := ⟨_, rfl⟩
  obtain ⟨t, hT⟩ : ∃ t, p.2.getD k (0, 0, (0, 0, 0), 0, 0, 0, 0, 0, 0, 0, 0) = t := ⟨_, rfl⟩
  rw [hR] at p1 e1 ⊢
  rw [hT] at p2 e2 ⊢
  rw [e1, e2, bind_some_, bind_some_]
  rw [if_pos (show (0 : Int) ≤ (i : Int) by omega), if_pos (show (i : Int) < (p.2.length : Int) by omega), if_pos (show (0 : Int) ≤ (k : Int) by omega), if_pos (show (k : Int) < (p.2.length : Int) by omega), if_pos (show 0 ≤ r.2.1 by omega), if_pos (show r.2.1 < (c.length : Int) by omega), if_pos (show 0 ≤ t.2.1 by omega), if_pos (show t.2.1 < (p.1.length : Int) by omega), if_pos (show 0 ≤ t.2.1 by omega), if_pos (show t.2.1 < (c.length : Int) by omega), if_pos (show 0 ≤ r.2.1 by omega), if_pos (show r.2.1 < (p.1.length : Int) by omega)]
  rw [if_pos (show (0 : Int) ≤ (i : Int) by omega), if_pos (show (i : Int) < (p.2.length : Int) by omega), if_pos (show (0 : Int) ≤ (k : Int) by omega), if_pos (show (k : Int) < (p.2.length : Int) by omega), if_pos (show 0 ≤ t.2.1 by omega), if_pos (show t.2.1 < (p.1.length : Int) by omega)]
  have same : ∀ {z : Option Bool}, (∃ b, z = some b) → ∃ b, z = some b ∧ z = some b := fun ⟨b, h⟩ => ⟨b, h, h⟩
  refine same ?_
  split
  · exact ⟨_, rfl⟩
  · split
    · exact ⟨_, rfl⟩
    · split <;> exact ⟨_, rfl⟩
/-- What is found of each request. -/
theorem looks_all {n : Night} {m : Mount_} {p : Progr} {cl : List (List Int)} {aim : List (List (Int × Int))} (hn : prop_CheckNight n = some 0) (hm : slew_CheckMount m = some 0) (ok : NightOk n) (mk : MtOk m) (pk : ProgOk p) (dk : DeskOk n p cl aim) {s : State_} (st : StOk n p s) : ∃ f : Nat → Cand_ × Int, ∀ j, j < p.2.length → plan_Desk_look (n, m, p, cl, aim) s (j : Int) = some (f j) ∧ spyref2_Table_Look (n, m, p, cl) s (j : Int) = some (f j) ∧ ((f j).2 = 0 → (f j).1.1 = (j : Int)) := by
  refine ⟨fun j => (plan_Desk_look (n, m, p, cl, aim) s (j : Int)).getD ((0, 0, (0, 0), 0, 0), 0), fun j hj => ?_⟩
  obtain ⟨f, f1, f2, f3⟩ := look_same hn hm ok mk pk dk st j hj
  simp only [f1, Option.getD_some]
  exact ⟨trivial, f2, fun k => (f3 k).1⟩
theorem look_p7 {n : Night} {m : Mount_} {p : Progr} {cl : List (List Int)} {aim : List (List (Int × Int))} (pk : ProgOk p) {s : State_} {c : List Int} (uo : UsedOk n m p cl s c) {f : Nat → Cand_ × Int} (hf : ∀ j, j < p.2.length → plan_Desk_look (n, m, p, cl, aim) s (j : Int) = some (f j) ∧ spyref2_Table_Look (n, m, p, cl) s (j : Int) = some (f j) ∧ ((f j).2 = 0 → (f j).1.1 = (j : Int))) (b0 : Cand_) : ∀ (u k : Nat) (bst : Int) (found : Bool) (best : Cand_) (lc : List Cand_) (ly : List Int), p.2.length - k = u → k ≤ p.2.length → lc.length = p.2.length → ly.length = p.2.length →
    (∀ j, j < k → lc.getD j (0, 0, (0, 0), 0, 0) = (f j).1 ∧ ly.getD j 0 = (f j).2) → ((found = false ∧ bst = -1) ∨ ∃ b : Nat, found = true ∧ bst = (b : Int) ∧ b < k ∧ (f b).2 = 0 ∧ best = (f b).1) →
    ∃ lc' ly' bst' found' best', plan_Desk_Look.p7 c bst p.2.length k (n, m, p, cl, aim) s lc ly = some (lc', ly', bst', 0) ∧ spyref2_Table_Best.p4 found p.2.length k (n, m, p, cl) s b0 best = some (best', found') ∧ lc'.length = p.2.length ∧ ly'.length = p.2.length ∧ (∀ j, j < p.2.length → lc'.getD j (0, 0, (0, 0), 0, 0) = (f j).1 ∧ ly'.getD j 0 = (f j).2) ∧ ((found' = false ∧ bst' = -1) ∨ (found' = true ∧ bst' = best'.1)) := by
  have hr := pk.reqs
  intro u
  induction u with
  | zero =>
    intro k bst found best lc ly hu hk h1 h2 h3 h4
    rw [plan_Desk_Look.p7_eq, spyref2_Table_Best.p4_eq, if_neg (by rw [dt]; omega), if_neg (by rw [dt]; omega)]
    refine ⟨lc, ly, bst, found, best, rfl, rfl, h1, h2, fun j hj => h3 j (by omega), ?_⟩
    rcases h4 with ⟨a, b⟩ | ⟨b, a1, a2, a3, a4, a5⟩
    · exact .inl ⟨a, b⟩
    · refine .inr ⟨a1, ?_⟩
      rw [a2, a5, (hf b (by omega)).2.2 a4]
  | succ u ih =>
    intro k bst found best lc ly hu hk h1 h2 h3 h4
    have hlt : k < p.2.length := by omega
    obtain ⟨f1, f2, f3⟩ := hf k hlt
    have s1 : (lc.set k (f k).1).length = p.2.length := by simpa using h1
    have s2 : (ly.set k (f k).2).length = p.2.length := by simpa using h2
    have s3 : ∀ j, j < k + 1 → (lc.set k (f k).1).getD j (0, 0, (0, 0), 0, 0) = (f j).1 ∧ (ly.set k (f k).2).getD j 0 = (f j).2 := by
      intro j hj
      by_cases e : k = j
      · subst e
        rw [getD_set_same _ (by omega), getD_set_same _ (by omega)]
        exact ⟨rfl, rfl⟩
      · rw [getD_set_ne _ e, getD_set_ne _ e]
        exact h3 j (by omega)
    have hu1 : p.2.length - (k + 1) = u := by clear h4; omega
    have hu2 : k + 1 ≤ p.2.length := by clear h4; omega
    have next := fun bst found best h => ih (k + 1) bst found best (lc.set k (f k).1) (ly.set k (f k).2) hu1 hu2 s1 s2 s3 h
    rw [plan_Desk_Look.p7_eq, spyref2_Table_Best.p4_eq]
    simp only [toNat_nat, wi_nat (show k < 9223372036854775807 by omega)]
    rw [if_pos (show decide ((k : Int) < (p.2.length : Int)) = true by rw [dt]; omega), if_pos (show decide ((k : Int) < (p.2.length : Int)) = true by rw [dt]; omega), f1, f2, bind_some_, bind_some_]
    rw [if_pos (show (0 : Int) ≤ (k : Int) by omega), if_pos (show (k : Int) < (lc.length : Int) by omega), if_pos (show (0 : Int) ≤ (k : Int) by omega), if_pos (show (k : Int) < (ly.length : Int) by omega), if_pos (show (0 : Int) ≤ (k : Int) by omega), if_pos (show (k : Int) < ((ly.set k (f k).2).length : Int) by omega), (s3 k (by omega)).2]
    by_cases z : (f k).2 = 0
    · have n1 : ((f k).2 == 0) = true := by rw [eq_t]; exact z
      rw [if_pos n1, if_pos n1]
      rcases h4 with ⟨a, b⟩ | ⟨b, a1, a2, a3, a4, a5⟩
      · subst a b
        rw [if_neg (by decide), if_neg (by decide)]
        exact next k true (f k).1 (.inr ⟨k, rfl, rfl, by omega, z, rfl⟩)
      · subst a1 a2
        obtain ⟨q, q1, q2⟩ := better_same (aim := aim) pk uo (f k).1 (f b).1 k b (f3 z) ((hf b (by omega)).2.2 a4) hlt (by omega)
        rw [if_pos (show decide ((b : Int) < 0) = false by rw [df]; omega), if_pos (show (!true) = false by decide), if_pos (show (0 : Int) ≤ (k : Int) by omega), if_pos (show (k : Int) < ((lc.set k (f k).1).length : Int) by omega), if_pos (show (0 : Int) ≤ (b : Int) by omega), if_pos (show (b : Int) < ((lc.set k (f k).1).length : Int) by omega), (s3 k (by omega)).1, toNat_nat, (s3 b (by omega)).1, a5, q1, q2, bind_some_, bind_some_]
        cases q with
        | true =>
          rw [if_pos rfl, if_pos rfl]
          exact next k true (f k).1 (.inr ⟨k, rfl, rfl, by omega, z, rfl⟩)
        | false =>
          rw [if_neg (by decide), if_neg (by decide)]
          exact next b true (f b).1 (.inr ⟨b, rfl, rfl, by omega, a4, rfl⟩)
    · have n1 : ¬ ((f k).2 == 0) = true := by rw [eq_t]; exact z
      rw [if_neg n1, if_neg n1]
      refine next bst found best ?_
      rcases h4 with h | ⟨b, a1, a2, a3, a4, a5⟩
      · exact .inl h
      · exact .inr ⟨b, a1, a2, by omega, a4, a5⟩
theorem looks_p16 {n : Night} {m : Mount_} {p : Progr} {cl : List (List Int)} {aim : List (List (Int × Int))} (pk : ProgOk p) {s : State_} {f : Nat → Cand_ × Int} (hf : ∀ j, j < p.2.length → plan_Desk_look (n, m, p, cl, aim) s (j : Int) = some (f j) ∧ spyref2_Table_Look (n, m, p, cl) s (j : Int) = some (f j) ∧ ((f j).2 = 0 → (f j).1.1 = (j : Int))) (lc : List Cand_) (ly : List Int) (h1 : lc.length = p.2.length) (h2 : ly.length = p.2.length) (h3 : ∀ j, j < p.2.length → lc.getD j (0, 0, (0, 0), 0, 0) = (f j).1 ∧ ly.getD j 0 = (f j).2) (bst : Int) (best : Cand_) (found : Bool) (hb : spyref2_Table_Best (n, m, p, cl) s = some (best, found)) (h4 : (found = false ∧ bst = -1) ∨ (found = true ∧ bst = best.1)) : ∀ (u k : Nat), p.2.length - k = u → k ≤ p.2.length → spylaw2_PlanLooks.p16 lc ly bst lc.length k s (n, m, p, cl) = some true := by
  have hr := pk.reqs
  intro u
  induction u with
  | zero =>
    intro k hu hk
    rw [spylaw2_PlanLooks.p16_eq, if_neg (by rw [dt]; omega), hb, bind_some_]
    rcases h4 with ⟨a, b⟩ | ⟨a, b⟩
    · subst a b
      rfl
    · subst a b
      rw [if_pos rfl, if_neg (by simp)]
  | succ u ih =>
    intro k hu hk
    have hlt : k < p.2.length := by omega
    rw [spylaw2_PlanLooks.p16_eq, if_pos (by rw [dt]; omega), (hf k hlt).2.1, bind_some_, if_pos (by omega), if_pos (by omega), toNat_nat, (h3 k hlt).1, if_pos (by simp), if_pos (by omega), if_pos (by omega), (h3 k hlt).2, if_neg (by simp), wi_nat (by omega)]
    exact ih (k + 1) (by omega) (by omega)
theorem PlanLooks : ∀ (x0 : (Int × Int) × (Int × Int × Int × Int) × Int × Int × Int × (Int × Int × Int) × (Int × Int × Int) × Int × List Int) (x1 : (Int × Int × Int × Int) × (Int × Int × Int × Int) × Int × Int) (x2 : (List (ByteArray × Int)) × List (Int × Int × (Int × Int × Int) × Int × Int × Int × Int × Int × Int × Int × Int)) (x3 : Int × (Int × Int) × List (List Int)), goodT Tryz.prog (.prod (.prod (.int .i64) (.int .i64)) (.prod (.prod (.int .i64) (.prod (.int .i64) (.prod (.int .i64) (.int .i64)))) (.prod (.int .i64) (.prod (.int .i64) (.prod (.int .i64) (.prod (.prod (.int .i64) (.prod (.int .i64) (.int .i64))) (.prod (.prod (.int .i64) (.prod (.int .i64) (.int .i64))) (.prod (.int .i64) (.list false 3 (.int .i64)))))))))) x0 → goodT Tryz.prog (.prod (.prod (.int .i64) (.prod (.int .i64) (.prod (.int .i64) (.int .i64)))) (.prod (.prod (.int .i64) (.prod (.int .i64) (.prod (.int .i64) (.int .i64)))) (.prod (.int .i64) (.int .i64)))) x1 → goodT Tryz.prog (.prod (.list false 137 (.prod .str (.int .i64))) (.list false 37 (.prod (.int .i64) (.prod (.int .i64) (.prod (.prod (.int .i64) (.prod (.int .i64) (.int .i64))) (.prod (.int .i64) (.prod (.int .i64) (.prod (.int .i64) (.prod (.int .i64) (.prod (.int .i64) (.prod (.int .i64) (.prod (.int .i64) (.int .i64))))))))))))) x2 → goodT Tryz.prog (.prod (.int .i64) (.prod (.prod (.int .i64) (.int .i64)) (.list false 33 (.list false 3 (.int .i64))))) x3 → spylaw2_PlanLooks x0 x1 x2 x3 = some true := by
  intro n m p s hn hm hp hs
  obtain ⟨e, c1, c2, c3⟩ := all_same n m p
  rw [spylaw2_PlanLooks_eq, plans_ok, bind_some_, if_neg (by decide), c2, spylaw2_ready_eq, c2, bind_some_]
  by_cases he : e = 0
  · subst he
    obtain ⟨nok, pok⟩ := c3 rfl
    obtain ⟨hnight, hmount, mok⟩ := all_parts c1
    obtain ⟨cl, aim, dk, d1, d2⟩ := desk_new c1 hnight nok pok
    obtain ⟨f, f1, f2, _⟩ := state_same n m p s pok cl
    rw [d1, bind_some_, bind_some_, if_neg (show ¬ ((0 : Int) != 0) = true by decide), if_neg (show ¬ ((0 : Int) != 0) = true by decide), d2, bind_some_, f2, bind_some_, plan_Desk_Look_eq, desk_check nok, f1, bind_some_]
    by_cases hf : f = 0
    · subst hf
      have st := check_ok pok f1
      obtain ⟨c, uo⟩ := used_ok (m := m) (cl := cl) (prop_part c1) pok st
      obtain ⟨g, hg⟩ := looks_all hnight hmount nok mok pok dk st
      have hr := pok.reqs
      obtain ⟨lc, ly, bst, found, best, k1, k2, k3, k4, k5, k6⟩ := look_p7 pok uo hg (0, 0, (0, 0), 0, 0) _ 0 (-1) false (0, 0, (0, 0), 0, 0) (List.replicate p.2.length (0, 0, (0, 0), 0, 0)) (List.replicate p.2.length 0) rfl (by omega) (by simp) (by simp) (fun j h => absurd h (by omega)) (.inl ⟨rfl, rfl⟩)
      rw [show ((0 : Nat) : Int) = 0 from rfl] at k1 k2
      have hb : spyref2_Table_Best (n, m, p, cl) s = some (best, found) := by
        rw [spyref2_Table_Best_eq]
        exact k2
      rw [if_neg (show ¬ ((0 : Int) != 0) = true by decide), uo.used, bind_some_]
      simp only
      rw [if_pos trivial, if_pos (by omega), if_pos (by omega), if_pos trivial, if_pos (by omega), if_pos (by omega), k1, bind_some_, bind_some_, if_neg (show ¬ ((0 : Int) != 0) = true by decide), spylaw2_PlanLooks.p11_eq, if_neg (show ¬ ((0 : Int) != 0) = true by decide), if_pos (show ((0 : Int) != 0) = false by decide), if_pos (by simp [k3]), if_neg (by simp [k3, k4])]
      exact looks_p16 pok hg lc ly k3 k4 k5 bst best found hb k6 _ 0 rfl (by omega)
    · have h : (f != 0) = true := by rw [ne_t]; exact hf
      rw [if_pos h, bind_some_, bind_some_, if_neg (show ¬ ((0 : Int) != 0) = true by decide), spylaw2_PlanLooks.p11_eq, if_pos h]
      simp
  · have h : (e != 0) = true := by rw [ne_t]; exact he
    rw [new_zero c1 he, bind_some_, bind_some_]
    simp only
    rw [if_neg (by simp), plan_Desk_Look_eq, desk_zero, bind_some_, if_pos (by decide), bind_some_, if_pos h, bind_some_, if_pos h, spylaw2_PlanLooks.p11_eq]
    rfl

end Go.Proofs.YtionphbdphbpnaaGreat.Pure
