/- Tracks that are cut; the state after visits. -/
import Derived.Test.YtiolbobjobjimaaGreatEA0
import Derived.Test.YtiolbobjobjimaaGreatEA1
import Derived.Test.YtiolbobjobjimaaGreatEA2
import Derived.Test.YtiolbobjobjimaaGreatEA3
import Derived.Test.YtiolbobjobjimaaGreatEA4
import Derived.Test.YtiolbobjobjimaaGreatEA5
import Derived.Test.YtiolbobjobjimaaGreatEA6
import Derived.Test.YtiolbobjobjimaaGreatPl
import Derived.Test.YtiolbobjobjimaaGreatLemAA
import Derived.Test.YtiolbobjobjimaaGreatLemAB
import Derived.Test.YtiolbobjobjimaaGreatLemAC
import Derived.Test.YtiolbobjobjimaaGreatLemAG
namespace Go.Proofs.YtiolbobjobjimaaGreat.Pure
set_option linter.unusedVariables false
set_option linter.unusedSimpArgs false
open Go Go.RowKit Go.Proofs.YtiolbobjobjimaaGreat.Pv Go.Proofs.YtiolbobjobjimaaGreat.Pl Go.Proofs.YtiolbobjobjimaaGreat.EA

/-! Tracks, cut. -/
def InM (m : Mt) (a : Int × Int) : Prop := (m.1.1 ≤ a.1 ∧ a.1 ≤ m.1.2.1) ∧ (m.2.1.1 ≤ a.2 ∧ a.2 ≤ m.2.1.2.1)
theorem track_step {n : Night} {m : Mt} (hn : prop_CheckNight n = some 0) (ok : NightOk n) (mk : MtOk m) {v : Int × Int × Int} (hv : sphere_Check v = some 0) (b : Int × Int) {j : Int} {a : Int × Int} (h0 : 1 ≤ j) (h1 : j ≤ n.2.2.2.2.1) (ha : InM m a) :
    (∃ e, e ≠ 0 ∧ ∀ to, j ≤ to → slew_Track.p10 to j m n a v b = some ((0, 0), e)) ∨ (∃ q, InM m q ∧ ∀ to, j ≤ to → slew_Track.p10 to j m n a v b = slew_Track.p10 to (j + 1) m n q v b) := by
  have hs := ok.slots
  have A := fault_ok mk.az
  have B := fault_ok mk.alt
  obtain ⟨h3, h4⟩ := ha
  obtain ⟨p, p1, w1, w2⟩ := aim_def hn ok hv (k := j) (by omega) (by omega)
  obtain ⟨r, r1, r2, _⟩ := to_def m a p w1 w2
  by_cases hz : r.2.2 = 0
  · have ok2 := r2 hz
    have a1 := A.lo
    have a2 := A.hi
    have b1 := B.lo
    have b2 := B.hi
    have c1 := ok2.p1
    have c2 := ok2.p2
    by_cases d1 : ((r.1.1 - a.1).natAbs : Int) > 1073741824
    · refine .inl ⟨4, by decide, fun to ht => ?_⟩
      rw [slew_Track.p10_eq, if_pos (by rw [dt]; exact ht), p1, bind_some_, if_neg (show ¬ ((0 : Int) != 0) = true by decide), r1, bind_some_, if_neg (by rw [ne_t]; exact fun q => q hz), wi (x := r.1.1 - a.1) (by omega) (by omega), abs_eq _ (by omega) (by omega), bind_some_, if_neg (by rw [df]; exact fun q => q d1)]
    · by_cases d2 : ((r.1.2 - a.2).natAbs : Int) > 1073741824
      · refine .inl ⟨4, by decide, fun to ht => ?_⟩
        rw [slew_Track.p10_eq, if_pos (by rw [dt]; exact ht), p1, bind_some_, if_neg (show ¬ ((0 : Int) != 0) = true by decide), r1, bind_some_, if_neg (by rw [ne_t]; exact fun q => q hz), wi (x := r.1.1 - a.1) (by omega) (by omega), abs_eq _ (by omega) (by omega), bind_some_, if_pos (by rw [df]; exact d1), wi (x := r.1.2 - a.2) (by omega) (by omega), abs_eq _ (by omega) (by omega), bind_some_, if_pos (by rw [dt]; exact d2)]
      · refine .inr ⟨r.1, ⟨c1, c2⟩, fun to ht => ?_⟩
        rw [slew_Track.p10_eq, if_pos (by rw [dt]; exact ht), p1, bind_some_, if_neg (show ¬ ((0 : Int) != 0) = true by decide), r1, bind_some_, if_neg (by rw [ne_t]; exact fun q => q hz), wi (x := r.1.1 - a.1) (by omega) (by omega), abs_eq _ (by omega) (by omega), bind_some_, if_pos (by rw [df]; exact d1), wi (x := r.1.2 - a.2) (by omega) (by omega), abs_eq _ (by omega) (by omega), bind_some_, if_neg (by rw [dt]; exact d2), wi (x := j + 1) (by omega) (by omega)]
  · refine .inl ⟨r.2.2, hz, fun to ht => ?_⟩
    rw [slew_Track.p10_eq, if_pos (by rw [dt]; exact ht), p1, bind_some_, if_neg (show ¬ ((0 : Int) != 0) = true by decide), r1, bind_some_, if_pos (by rw [ne_t]; exact hz)]
theorem track_end (m : Mt) (n : Night) (v : Int × Int × Int) (b : Int × Int) (to j : Int) (a : Int × Int) (h : to < j) : slew_Track.p10 to j m n a v b = some (a, 0) := by
  rw [slew_Track.p10_eq, if_neg (by rw [dt]; omega)]
/-- A track that comes to its end does so by way of all that lies between. -/
theorem track_cut {n : Night} {m : Mt} (hn : prop_CheckNight n = some 0) (ok : NightOk n) (mk : MtOk m) {v : Int × Int × Int} (hv : sphere_Check v = some 0) (b : Int × Int) {c : Int} (hc : c ≤ n.2.2.2.2.1) {t : Int × Int} : ∀ (u : Nat) (j a : Int) (x : Int × Int), (a + 1 - j).toNat = u → 1 ≤ j → j ≤ a + 1 → a ≤ c → InM m x → slew_Track.p10 c j m n x v b = some (t, 0) →
    ∃ y, InM m y ∧ slew_Track.p10 a j m n x v b = some (y, 0) ∧ slew_Track.p10 c (a + 1) m n y v b = some (t, 0) := by
  intro u
  induction u with
  | zero =>
    intro j a x hu h1 h2 h3 hx h
    obtain rfl : j = a + 1 := by omega
    exact ⟨x, hx, track_end m n v b a _ x (by omega), h⟩
  | succ u ih =>
    intro j a x hu h1 h2 h3 hx h
    rcases track_step hn ok mk hv b (j := j) h1 (by omega) hx with ⟨e, e0, e1⟩ | ⟨q, q0, q1⟩
    · rw [e1 c (by omega)] at h
      have := congrArg Prod.snd (Option.some.inj h)
      exact absurd this e0
    · rw [q1 c (by omega)] at h
      rw [q1 a (by omega)]
      exact ih (j + 1) a q (by omega) (by omega) (by omega) h3 q0 h
theorem track_val (m : Mt) (n : Night) (x : Int × Int) (v : Int × Int × Int) (fr to : Int) (hm : slew_CheckMount m = some 0) (hn : prop_CheckNight n = some 0) (ok : NightOk n) (hx : InM m x) (h0 : 0 ≤ fr) (h1 : fr ≤ to) (h2 : to ≤ n.2.2.2.2.1) : slew_Track m n x v fr to = slew_Track.p10 to (fr + 1) m n x v (0, 0) := by
  have hs := ok.slots
  rw [slew_Track_eq, hm, bind_some_, if_neg (by decide), hn, bind_some_, if_neg (by decide)]
  obtain ⟨⟨a0, a1, a2, a3⟩, ⟨b0, b1, b2, b3⟩, p, q⟩ := m
  simp only [in_eq, bind_some_]
  rw [if_pos (by rw [not_f, dt]; exact hx.1), if_pos (by rw [not_f, dt]; exact hx.2), if_pos (by rw [df]; omega), if_pos (by rw [df]; omega), if_neg (by rw [dt]; omega), wi (x := fr + 1) (by omega) (by omega)]
/-- What a possible visit is made of. -/
structure Made (n : Night) (m : Mount_) (p : Progr) (s q : State_) (v : Int × Int × Int × Int) (i : Nat) (a x : (Int × Int)) (t : Int × Int) : Prop where
  idx : spyref2_IndexOf p v.1 = some (i : Int)
  hi : i < p.2.length
  id : (p.2.getD i zreq).1 = v.1
  len : v.2.2.2 = (p.2.getD i zreq).2.2.2.1
  lo : s.1 ≤ v.2.2.1
  hi_ : v.2.2.1 + v.2.2.2 ≤ n.2.2.2.2.1
  aim : slew_Aim n (p.2.getD i zreq).2.2.1 v.2.2.1 = some (a, 0)
  to : ∃ k, slew_To m s.2.1 a = some (x, k, 0)
  at_ : InM m x
  track : slew_Track m n x (p.2.getD i zreq).2.2.1 v.2.2.1 (v.2.2.1 + v.2.2.2) = some (t, 0)
theorem visit_made {n : Night} {m : Mount_} {p : Progr} {cl : List (List Int)} (hn : prop_CheckNight n = some 0) (hm : slew_CheckMount m = some 0) (ok : NightOk n) (mk : MtOk m) (pk : ProgOk p) {s : State_} (st : StOk n p s) {v : Int × Int × Int × Int} {q : State_} (h : spyref2_Table_Visit (n, m, p, cl) s v = some (q, 0)) : ∃ i a x t, Made n m p s q v i a x t := by
  have hr := pk.reqs
  have h64 := ok.slots
  have hl := st.len
  have hslot := st.slot
  rw [spyref2_Table_Visit_eq] at h
  simp only at h
  rcases index_of p v.1 hr with ⟨h1, h2⟩ | ⟨j, hj, h1, h2⟩
  · rw [h1, bind_some_, if_pos (by decide)] at h
    cases h
  · have rl := req_len pk hj
    have hrf := req_fault pk hj
    rw [h1, bind_some_, if_neg (by rw [dt]; omega)] at h
    simp only [toNat_nat] at h
    obtain ⟨_, h⟩ := ite_n h
    obtain ⟨_, h⟩ := ite_n h
    obtain ⟨_, h⟩ := ite_n h
    obtain ⟨_, h⟩ := ite_n h
    obtain ⟨c1, h⟩ := ite_z (by decide) h
    rw [ne_t] at c1
    rw [in_val, bind_some_] at h
    obtain ⟨c2, h⟩ := ite_y (by decide) h
    rw [not_f, dt, wi (by omega) (by omega)] at c2
    rw [in_val, bind_some_] at h
    obtain ⟨c3, h⟩ := ite_z (by decide) h
    obtain ⟨c4, h⟩ := ite_z (by decide) h
    have key : spyref2_Table_Visit.p13 (j : Int) (n, m, p, cl) s v (0, (0, 0), []) (p.2.getD j zreq) = some (q, 0) := by
      by_cases z : decide (((s.2.2.getD j []).length : Int) > 0) = true
      · rw [if_pos z] at h
        obtain ⟨_, h⟩ := ite_n h
        obtain ⟨_, h⟩ := ite_n h
        rw [in_val, bind_some_] at h
        exact (ite_z (by decide) h).2
      · rw [if_neg z] at h
        exact h
    clear h
    rw [spyref2_Table_Visit.p13_eq] at key
    simp only at key
    obtain ⟨o, _, key⟩ := bind_inv key
    obtain ⟨_, key⟩ := ite_z (by decide) key
    obtain ⟨a, a1, key⟩ := bind_inv key
    obtain ⟨a2, key⟩ := ite_z (by decide) key
    obtain ⟨x, x1, key⟩ := bind_inv key
    obtain ⟨x2, key⟩ := ite_z (by decide) key
    obtain ⟨y, _, key⟩ := bind_inv key
    obtain ⟨_, key⟩ := ite_z (by decide) key
    obtain ⟨t, t1, key⟩ := bind_inv key
    obtain ⟨t2, _⟩ := ite_z (by decide) key
    rw [ne_t] at a2 x2 t2
    have a3 : a.2 = 0 := by omega
    have x3 : x.2.2 = 0 := by omega
    have t3 : t.2 = 0 := by omega
    have wt := aim_wf a1
    obtain ⟨x', e1, e2, _⟩ := to_def m s.2.1 a.1 wt.1 wt.2
    rw [x1] at e1
    cases e1
    have xo := e2 x3
    simp only [zreq] at *
    have vl : v.2.2.2 = (p.2.getD j (0, 0, (0, 0, 0), 0, 0, 0, 0, 0, 0, 0, 0)).2.2.2.1 := by omega
    refine ⟨j, a.1, x.1, t.1, ⟨h1, hj, ?_, ?_, c2.1, ?_, ?_, ⟨x.2.1, ?_⟩, ⟨xo.p1, xo.p2⟩, ?_⟩⟩
    · simp only [zreq]; rw [getD_nat _ _ hj]; exact h2
    · simp only [zreq]; exact vl
    · omega
    · simp only [zreq]; rw [a1, ← a3]
    · rw [x1, ← x3]
    · simp only [zreq]
      rw [wi (by omega) (by omega)] at t1
      rw [t1, ← t3]
theorem start_p6 {n : Night} {p : Progr} (pk : ProgOk p) (s : State_) (hs : s.2.2 = List.replicate p.2.length []) : ∀ (u k : Nat), p.2.length - k = u → k ≤ p.2.length → plan_CheckState.p6 (List.replicate p.2.length []) ((List.replicate p.2.length ([] : List Int)).length : Int) k p s = some 0 := by
  have hr := pk.reqs
  intro u
  induction u with
  | zero =>
    intro k hu hk
    rw [plan_CheckState.p6_eq, if_neg (by rw [dt]; simp; omega)]
  | succ u ih =>
    intro k hu hk
    have rl := req_len pk (j := k) (by omega)
    rw [plan_CheckState.p6_eq, if_pos (by rw [dt]; simp; omega), if_pos (by omega), if_pos (by simp; omega), if_pos (by omega), if_pos (by omega), toNat_nat, getD_repl, if_neg (by rw [dt]; show ¬ ((0 : Int) > (p.2.getD k (0, 0, (0, 0, 0), 0, 0, 0, 0, 0, 0, 0, 0)).2.2.2.2.1); omega), plan_CheckState.p11_eq, if_neg (by decide), wi_nat (by omega)]
    exact ih (k + 1) (by omega) (by omega)
theorem start_ok {n : Night} {m : Mount_} {p : Progr} (ok : NightOk n) (mk : MtOk m) (pk : ProgOk p) : plan_CheckState n m p (0, m.2.2, List.replicate p.2.length []) = some 0 := by
  have h := ok.slots
  have a := mk.p
  have b := mk.q
  rw [plan_CheckState_eq, (in_within ..).1, (in_within ..).1]
  simp only [bind_some_]
  rw [if_pos (by rw [df]; omega), if_pos (by rw [df]; omega), if_pos (by rw [not_f, dt]; exact a), if_neg (by rw [not_t, df]; exact fun q => q b), if_neg (by rw [ne_t]; simp)]
  exact start_p6 (n := n) pk _ rfl _ 0 rfl (by omega)
/-! The state after a list of visits. -/
theorem after_run {n : Night} {m : Mount_} {p : Progr} {cl : List (List Int)} {aim : List (List (Int × Int))} (hn : prop_CheckNight n = some 0) (hm : slew_CheckMount m = some 0) (ok : NightOk n) (mk : MtOk m) (pk : ProgOk p) (dk : DeskOk n p cl aim) (l : List (Int × Int × Int × Int)) (hl : l.length ≤ 64) (b b' : State_) : ∀ (u k : Nat) (s : State_), l.length - k = u → k ≤ l.length → StOk n p s →
    ∃ q e, plan_Desk_After.p8 l l.length k (n, m, p, cl, aim) b s.1 s.2.1.1 s.2.1.2 s.2.2 = some (q, e) ∧ spyref2_Table_Visits.p5 l l.length k (n, m, p, cl) b' s = some (q, e) ∧ (e ≠ 0 → q = (0, (0, 0), [])) ∧ (e = 0 → StOk n p q) := by
  intro u
  induction u with
  | zero =>
    intro k s hu hk st
    rw [plan_Desk_After.p8_eq, spyref2_Table_Visits.p5_eq, if_neg (by rw [dt]; omega), if_neg (by rw [dt]; omega)]
    exact ⟨s, 0, rfl, rfl, fun q => absurd rfl q, fun _ => st⟩
  | succ u ih =>
    intro k s hu hk st
    obtain ⟨c, e, q, c1, c2, c3, c4⟩ := visit_same hn hm ok mk pk dk st (l.getD k (0, 0, 0, 0))
    obtain ⟨s0, ⟨s1, s2⟩, s3⟩ := s
    rw [plan_Desk_After.p8_eq, spyref2_Table_Visits.p5_eq]
    simp only [toNat_nat, wi_nat (show k < 9223372036854775807 by omega)]
    rw [if_pos (show decide ((k : Int) < (l.length : Int)) = true by rw [dt]; omega), if_pos (show (0 : Int) ≤ k by omega), if_pos (show (k : Int) < l.length by omega), if_pos (show decide ((k : Int) < (l.length : Int)) = true by rw [dt]; omega), if_pos (show (0 : Int) ≤ k by omega), if_pos (show (k : Int) < l.length by omega), c1, c2, bind_some_, bind_some_]
    by_cases he : e = 0
    · subst he
      obtain ⟨x, x1, x2⟩ := c4 rfl
      rw [if_neg (show ¬ ((0 : Int) != 0) = true by decide), if_neg (show ¬ ((0 : Int) != 0) = true by decide), x1, bind_some_]
      exact ih (k + 1) q (by omega) (by omega) x2
    · rw [if_pos (show (e != 0) = true by rw [ne_t]; exact he), if_pos (show (e != 0) = true by rw [ne_t]; exact he)]
      exact ⟨_, e, rfl, rfl, fun _ => rfl, fun k => absurd k he⟩
/-- The state after a list of visits, both ways. -/
theorem visits_same {n : Night} {m : Mount_} {p : Progr} {cl : List (List Int)} {aim : List (List (Int × Int))} (hn : prop_CheckNight n = some 0) (hm : slew_CheckMount m = some 0) (ok : NightOk n) (mk : MtOk m) (pk : ProgOk p) (dk : DeskOk n p cl aim) (l : List (Int × Int × Int × Int)) :
    ∃ q e, plan_Desk_After (n, m, p, cl, aim) l = some (q, e) ∧ spyref2_Table_Visits (n, m, p, cl) l = some (q, e) ∧ (e ≠ 0 → q = (0, (0, 0), [])) ∧ (e = 0 → StOk n p q) := by
  have hr := pk.reqs
  have hs := ok.slots
  have e1 : plan_Start m p = some (0, m.2.2, List.replicate p.2.length []) := by
    rw [plan_Start_eq, if_pos rfl, if_pos (by omega), if_pos (by omega)]
  have e2 : spyref2_Table_First (n, m, p, cl) = some (0, m.2.2, List.replicate p.2.length []) := by
    rw [spyref2_Table_First_eq]
    simp only
    rw [if_pos trivial, if_pos (by omega), if_pos (by omega)]
  have c0 := start_ok ok mk pk
  rw [plan_Desk_After_eq, spyref2_Table_Visits_eq]
  simp only
  rw [e1, bind_some_, desk_check ok, c0, bind_some_, if_neg (show ¬ ((0 : Int) != 0) = true by decide)]
  by_cases h : (l.length : Int) > n.2.2.2.2.1
  · rw [if_pos (show decide ((l.length : Int) > n.2.2.2.2.1) = true by rw [dt]; exact h), if_pos (show decide ((l.length : Int) > n.2.2.2.2.1) = true by rw [dt]; exact h)]
    exact ⟨_, 2, rfl, rfl, fun _ => rfl, fun k => by cases k⟩
  · rw [if_neg (show ¬ decide ((l.length : Int) > n.2.2.2.2.1) = true by rw [dt]; exact h), if_neg (show ¬ decide ((l.length : Int) > n.2.2.2.2.1) = true by rw [dt]; exact h), e2, bind_some_]
    exact after_run hn hm ok mk pk dk l (by omega) (0, (0, 0), []) (0, (0, 0), []) _ 0 (0, m.2.2, List.replicate p.2.length []) rfl (by omega) (check_ok pk c0)

end Go.Proofs.YtiolbobjobjimaaGreat.Pure
