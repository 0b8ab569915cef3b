/- ReplanFollows: the pure statement, proved. -/
import Derived.Test.YtdcbapdakaaeoaaGreatEA0
import Derived.Test.YtdcbapdakaaeoaaGreatEA1
import Derived.Test.YtdcbapdakaaeoaaGreatEA2
import Derived.Test.YtdcbapdakaaeoaaGreatEA3
import Derived.Test.YtdcbapdakaaeoaaGreatEA4
import Derived.Test.YtdcbapdakaaeoaaGreatEA5
import Derived.Test.YtdcbapdakaaeoaaGreatEA6
import Derived.Test.YtdcbapdakaaeoaaGreatEA7
import Derived.Test.YtdcbapdakaaeoaaGreatPl
import Derived.Test.YtdcbapdakaaeoaaGreatLemAA
import Derived.Test.YtdcbapdakaaeoaaGreatLemAB
import Derived.Test.YtdcbapdakaaeoaaGreatLemAC
import Derived.Test.YtdcbapdakaaeoaaGreatLemAG
import Derived.Test.YtdcbapdakaaeoaaGreatLemAD
import Derived.Test.YtdcbapdakaaeoaaGreatLemAE
namespace Go.Proofs.YtdcbapdakaaeoaaGreat.Pure
set_option linter.unusedVariables false
set_option linter.unusedSimpArgs false
open Go Go.RowKit Go.Proofs.YtdcbapdakaaeoaaGreat.Pv Go.Proofs.YtdcbapdakaaeoaaGreat.Pl Go.Proofs.YtdcbapdakaaeoaaGreat.EA

/-! The session against the reference. -/
theorem concat_ints (a b : List Int) (h : a.length + b.length ≤ 100000) : slices_Concat_int_int [a, b] = some (a ++ b) := by
  have g : ∀ n : Nat, n ≤ 100000 → slices_Grow_int_int (n : Int) = some [] := by
    intro n hn
    rw [slices_Grow_int_int_eq, if_neg (by rw [dt]; omega), wi (x := (n : Int) - 0) (by omega) (by omega)]
    by_cases z : (n : Int) - 0 > 0
    · rw [if_pos (by rw [dt]; exact z), if_pos (by omega), if_pos (by omega), if_pos (by omega)]
      rfl
    · rw [if_neg (by rw [dt]; exact z)]
  have q0 : ∀ x y : List Int, [x, y].getD 0 [] = x := fun _ _ => rfl
  have q1 : ∀ x y : List Int, [x, y].getD 1 [] = y := fun _ _ => rfl
  have w1 : IntKind.i64.wrap (0 + 1) = 1 := by decide +kernel
  have w2 : IntKind.i64.wrap (1 + 1) = 2 := by decide +kernel
  have l2 : ([a, b].length : Int) = 2 := rfl
  have t0 : (0 : Int).toNat = 0 := rfl
  have t1 : (1 : Int).toNat = 1 := rfl
  rw [slices_Concat_int_int_eq, slices_Concat_int_int.p3_eq]
  simp only [l2, t0, q0, w1]
  rw [if_pos (by decide), if_pos (by decide), if_pos (by decide), wi (x := 0 + (a.length : Int)) (by omega) (by omega), if_neg (by rw [dt]; omega), slices_Concat_int_int.p3_eq]
  simp only [l2, t1, q1, w2]
  rw [if_pos (by decide), if_pos (by decide), if_pos (by decide), wi (x := 0 + (a.length : Int) + (b.length : Int)) (by omega) (by omega), if_neg (by rw [dt]; omega), slices_Concat_int_int.p3_eq]
  rw [if_neg (by decide), show 0 + (a.length : Int) + (b.length : Int) = ((a.length + b.length : Nat) : Int) by omega, g _ h, bind_some_, slices_Concat_int_int.p11_eq]
  simp only [l2, t0, q0, w1]
  rw [if_pos (by decide), if_pos (by decide), if_pos (by decide), if_pos (by simp only [List.length_nil]; omega), slices_Concat_int_int.p11_eq]
  simp only [l2, t1, q1, w2]
  rw [if_pos (by decide), if_pos (by decide), if_pos (by decide), if_pos (by simp only [List.nil_append]; omega), slices_Concat_int_int.p11_eq, if_neg (by decide)]
  rfl
theorem eql_p4 (l : List (Int × Int × Int × Int)) (hl : l.length ≤ 1000000) : ∀ (u k : Nat), l.length - k = u → k ≤ l.length → slices_Equal_api_Visit.p4 l l l.length k = some true := by
  intro u
  induction u with
  | zero => intro k hu hk; rw [slices_Equal_api_Visit.p4_eq, if_neg (by rw [dt]; omega)]
  | succ u ih =>
    intro k hu hk
    rw [slices_Equal_api_Visit.p4_eq, if_pos (by rw [dt]; omega), if_pos (by omega), if_pos (by omega), if_pos (by omega), if_pos (by omega), if_neg (by simp), wi_nat (by omega)]
    exact ih (k + 1) (by omega) (by omega)
theorem eql_same (l : List (Int × Int × Int × Int)) (hl : l.length ≤ 1000000) : slices_Equal_api_Visit l l = some true := by
  rw [slices_Equal_api_Visit_eq, if_neg (by simp)]
  exact eql_p4 l hl _ 0 rfl (by omega)
theorem eqi_p4 (l : List Int) (hl : l.length ≤ 1000000) : ∀ (u k : Nat), l.length - k = u → k ≤ l.length → slices_Equal_int_int.p4 l l l.length k = some true := by
  intro u
  induction u with
  | zero => intro k hu hk; rw [slices_Equal_int_int.p4_eq, if_neg (by rw [dt]; omega)]
  | succ u ih =>
    intro k hu hk
    rw [slices_Equal_int_int.p4_eq, if_pos (by rw [dt]; omega), if_pos (by omega), if_pos (by omega), if_pos (by omega), if_pos (by omega), if_neg (by simp), wi_nat (by omega)]
    exact ih (k + 1) (by omega) (by omega)
theorem eqi_same (l : List Int) (hl : l.length ≤ 1000000) : slices_Equal_int_int l l = some true := by
  rw [slices_Equal_int_int_eq, if_neg (by simp)]
  exact eqi_p4 l hl _ 0 rfl (by omega)

abbrev News_ : Type := Int × List Int × List Int
abbrev Visits_ : Type := List (Int × Int × Int × Int)
theorem follow_run {m : Mount_} {p : Progr} (hm : slew_CheckMount m = some 0) (hp : prop_Check p = some 0) (mk : MtOk m) (pk : ProgOk p) (l : List News_) (hl : l.length ≤ 8) (x9 y9 : Night) : ∀ (u k : Nat) (n : Night) (cl : List (List Int)) (base : State_) (done rest : Visits_) (gone : List Int), l.length - k = u → k ≤ l.length → prop_CheckNight n = some 0 → NightOk n → Fits n m p base → done.length ≤ 64 * k → (rest.length : Int) ≤ 64 → gone.length ≤ 16 * k →
    ∃ out n2 e, replan_Follow.p7 l l.length k p x9 (n, m, p, base, done, rest) gone = some (out, n2, e) ∧ spylaw2_follow.p10 rest done gone l l.length k m p y9 (n, m, p, cl) base = some (out, n2, e) ∧ out.length ≤ 1000 ∧ (e = 0 → n2.2.2.2.2.1 = n.2.2.2.2.1 ∧ n2.2.2.1 = n.2.2.1 ∧ n2.2.2.2.2.2.2.2.2.length ≤ 1000) := by
  intro u
  induction u with
  | zero =>
    intro k n cl base done rest gone hu hk hn ok fb hd hr hg
    have hc := ok.cloud
    have hs := ok.slots
    refine ⟨done ++ rest, n, 0, ?_, ?_, by rw [List.length_append]; omega, fun _ => ⟨rfl, rfl, by omega⟩⟩
    · rw [replan_Follow.p7_eq, if_neg (by rw [dt]; omega)]
      simp only
      rw [cloneN _ (by omega), bind_some_, concat_two _ _ (by omega), bind_some_]
    · rw [spylaw2_follow.p10_eq, if_neg (by rw [dt]; omega), concat_two _ _ (by omega), bind_some_]
  | succ u ih =>
    intro k n cl base done rest gone hu hk hn ok fb hd hr hg
    have hc := ok.cloud
    have hs := ok.slots
    have q1 : l.length - (k + 1) = u := by omega
    have q2 : k + 1 ≤ l.length := by omega
    obtain ⟨r, r1, r2, r3⟩ := news_same ok pk.reqs (l.getD k (0, [], []))
    rw [replan_Follow.p7_eq, spylaw2_follow.p10_eq, if_pos (show decide ((k : Int) < (l.length : Int)) = true by rw [dt]; omega), if_pos (show decide ((k : Int) < (l.length : Int)) = true by rw [dt]; omega)]
    simp only [if_pos (show (0 : Int) ≤ (k : Int) by omega), if_pos (show (k : Int) < (l.length : Int) by omega), toNat_nat]
    generalize l.getD k (0, [], []) = x at r1 r2 r3 ⊢
    rw [r1, r2, bind_some_, bind_some_]
    by_cases hz : r = 0
    case neg =>
      have nz : (r != 0) = true := by rw [ne_t]; exact hz
      rw [if_pos nz, if_pos nz]
      exact ⟨_, _, _, rfl, rfl, by simp, fun z => absurd z hz⟩
    subst hz
    obtain ⟨g1, g2, g3, g4⟩ := r3 rfl
    have i1 : ¬ ((0 : Int) != 0) = true := by decide
    rw [if_neg i1, if_neg i1]
    simp only [if_pos g1, if_pos (show x.1 ≤ (n.2.2.2.2.2.2.2.2.length : Int) by omega)]
    rw [concat_ints _ _ (by rw [List.length_take]; omega), bind_some_, bind_some_]
    generalize hc2 : n.2.2.2.2.2.2.2.2.take x.1.toNat ++ x.2.1 = c2
    generalize hn2 : ((n.1, n.2.1, n.2.2.1, n.2.2.2.1, n.2.2.2.2.1, n.2.2.2.2.2.1, n.2.2.2.2.2.2.1, n.2.2.2.2.2.2.2.1, c2) : Night) = n2
    have s1 : n2.2.2.2.2.1 = n.2.2.2.2.1 := by rw [← hn2]
    have s2 : n2.2.2.1 = n.2.2.1 := by rw [← hn2]
    obtain ⟨h1, f, h2⟩ := night_eq n2
    rw [h2] at h1
    rw [h2, bind_some_]
    by_cases hf : f = 0
    case neg =>
      have nz : (f != 0) = true := by rw [ne_t]; exact hf
      have hca : plan_CheckAll n2 m p = some f := by rw [plan_CheckAll_eq, h1, bind_some_, if_pos nz]
      rw [if_pos nz, replan_session_leave_eq]
      simp only
      rw [new_zero hca hf, bind_some_, if_pos nz, bind_some_, if_pos nz]
      exact ⟨_, _, _, rfl, rfl, by simp, fun z => absurd z hf⟩
    subst hf
    rw [if_neg i1]
    have hca := check_all_left h1 hm hp
    obtain ⟨e, k1, _, k3⟩ := all_same n2 m p
    rw [hca] at k1
    cases k1
    have ok2 := (k3 rfl).1
    obtain ⟨cl2, aim2, dk2, d1, d2⟩ := desk_new hca h1 ok2 pk
    have fb2 : Fits n2 m p base := ⟨by rw [s1]; exact fb.slot, fb.az, fb.alt, fb.len, fb.vis, fb.row⟩
    obtain ⟨q, kk, e, e1, e2, e3⟩ := leave_same h1 hm ok2 mk pk dk2 d1 fb2 done rest (by omega) (by omega) x.1
    rw [d2, bind_some_, e1, bind_some_]
    by_cases he : e = 0
    case neg =>
      obtain ⟨_, s', z2⟩ := e2 he
      have nz : (e != 0) = true := by rw [ne_t]; exact he
      rw [z2, bind_some_, if_pos nz, if_pos nz]
      exact ⟨_, _, _, rfl, rfl, by simp, fun z => absurd z he⟩
    subst he
    obtain ⟨j, rfl, j1, j2, fq, j3, j4⟩ := e3 rfl
    obtain ⟨l2, w1, w2, w3⟩ := gone_same (cl := cl2) h1 hm hp ok2 mk pk fq (gone ++ x.2.2) (by rw [List.length_append]; omega) (done ++ rest.take j) []
    have tl : (rest.take j).length = j := by rw [List.length_take]; omega
    rw [j4, bind_some_, if_neg i1, if_neg i1, if_pos (by omega)]
    simp only [if_pos (show (0 : Int) ≤ (j : Int) by omega), if_pos (show (j : Int) ≤ (rest.length : Int) by omega), toNat_nat]
    rw [w1, bind_some_, if_neg i1, concat_two _ _ (by omega), bind_some_, concat_ints _ _ (by omega), bind_some_, w2, bind_some_, wi_nat (by omega)]
    have t1 : (done ++ rest.take j).length ≤ 64 * (k + 1) := by
      clear e2 e3
      rw [List.length_append]
      omega
    have t2 : (gone ++ x.2.2).length ≤ 16 * (k + 1) := by
      clear e2 e3
      rw [List.length_append]
      omega
    obtain ⟨out, n3, e, y1, y2, y3, y4⟩ := ih (k + 1) n2 cl2 q (done ++ rest.take j) l2 (gone ++ x.2.2) q1 q2 h1 ok2 fq t1 w3 t2
    exact ⟨out, n3, e, y1, y2, y3, fun z => ⟨(y4 z).1.trans s1, (y4 z).2.1.trans s2, (y4 z).2.2⟩⟩
theorem ReplanFollows : ∀ (x0 : (Int × Int) × (Int × Int × Int × Int) × Int × Int × Int × (Int × Int × Int) × (Int × Int × Int) × Int × List Int) (x1 : (Int × Int × Int × Int) × (Int × Int × Int × Int) × Int × Int) (x2 : (List (ByteArray × Int)) × List (Int × Int × (Int × Int × Int) × Int × Int × Int × Int × Int × Int × Int × Int)) (x3 : List (Int × (List Int) × List Int)), goodT Tryz.prog (.prod (.prod (.int .i64) (.int .i64)) (.prod (.prod (.int .i64) (.prod (.int .i64) (.prod (.int .i64) (.int .i64)))) (.prod (.int .i64) (.prod (.int .i64) (.prod (.int .i64) (.prod (.prod (.int .i64) (.prod (.int .i64) (.int .i64))) (.prod (.prod (.int .i64) (.prod (.int .i64) (.int .i64))) (.prod (.int .i64) (.list false 3 (.int .i64)))))))))) x0 → goodT Tryz.prog (.prod (.prod (.int .i64) (.prod (.int .i64) (.prod (.int .i64) (.int .i64)))) (.prod (.prod (.int .i64) (.prod (.int .i64) (.prod (.int .i64) (.int .i64)))) (.prod (.int .i64) (.int .i64)))) x1 → goodT Tryz.prog (.prod (.list false 160 (.prod .str (.int .i64))) (.list false 118 (.prod (.int .i64) (.prod (.int .i64) (.prod (.prod (.int .i64) (.prod (.int .i64) (.int .i64))) (.prod (.int .i64) (.prod (.int .i64) (.prod (.int .i64) (.prod (.int .i64) (.prod (.int .i64) (.prod (.int .i64) (.prod (.int .i64) (.int .i64))))))))))))) x2 → goodT Tryz.prog (.list false 86 (.prod (.int .i64) (.prod (.list false 3 (.int .i64)) (.list false 3 (.int .i64))))) x3 → spylaw2_ReplanFollows x0 x1 x2 x3 = some true := by
  intro n m p l hn hm hp hl
  rw [spylaw2_ReplanFollows_eq, replans_ok, bind_some_, if_neg (by decide)]
  by_cases hlen : l.length ≤ 8
  case neg =>
    rw [if_pos (by rw [dt]; omega)]
  rw [if_neg (by rw [dt]; omega)]
  obtain ⟨e, c1, c2, c3⟩ := all_same n m p
  have hsz : p.2.length * 24 ≤ 140737488355328 := by
    have h := hp.2.2.1
    have hb : Tryz.prog.bytesOf 118 = 104 := by kernel_rfl
    rw [hb] at h
    omega
  have st : plan_Start m p = some (0, m.2.2, List.replicate p.2.length []) := by
    rw [plan_Start_eq, if_pos rfl, if_pos (by omega), if_pos hsz]
  rw [replan_Follow_eq, plan_Make_eq, st, bind_some_, plan_From_eq, spylaw2_follow_eq, c2]
  by_cases he : e = 0
  · subst he
    obtain ⟨nok, pok⟩ := c3 rfl
    obtain ⟨hnight, hmount, mok⟩ := all_parts c1
    obtain ⟨cl, aim, dk, d1, d2⟩ := desk_new c1 hnight nok pok
    have ff : Fits n m p (0, m.2.2, List.replicate p.2.length []) := first_fits nok pok ⟨mok.p, mok.q⟩
    obtain ⟨r, r1, r2, r3⟩ := from_fit hnight hmount nok mok pok dk (prop_part c1) ff
    have fv : spyref2_Table_First (n, m, p, cl) = some (0, m.2.2, List.replicate p.2.length []) := by
      rw [spyref2_Table_First_eq, if_pos rfl, if_pos (by simp only; omega), if_pos hsz]
    have i1 : ¬ ((0 : Int) != 0) = true := by decide
    obtain ⟨out, n2, e, y1, y2, y3, y4⟩ := follow_run hmount (prop_part c1) mok pok l hlen ((0, 0), (0, 0, 0, 0), 0, 0, 0, (0, 0, 0), (0, 0, 0), 0, []) ((0, 0), (0, 0, 0, 0), 0, 0, 0, (0, 0, 0), (0, 0, 0), 0, []) _ 0 n cl (0, m.2.2, List.replicate p.2.length []) [] r [] rfl (by omega) hnight nok ff (by simp) r3 (by simp)
    rw [show ((0 : Nat) : Int) = 0 from rfl] at y1 y2
    rw [d1, bind_some_, if_neg i1, r1, bind_some_, bind_some_, bind_some_, if_neg i1, bind_some_, y1, bind_some_, bind_some_, if_neg i1, d2, bind_some_, fv, bind_some_, r2, bind_some_, y2, bind_some_]
    simp only
    rw [if_pos (show (e != e) = false by simp), eql_same _ (by omega), bind_some_, if_neg (by decide)]
    by_cases hz : e = 0
    · obtain ⟨z1, z2, z3⟩ := y4 hz
      rw [if_pos (by rw [ne_f]; exact hz), eqi_same _ (by omega), bind_some_, if_pos rfl, z1, z2, if_pos (by rw [eq_t])]
      simp
    · rw [if_neg (by rw [ne_f]; exact hz)]
  · have h : (e != 0) = true := by rw [ne_t]; exact he
    rw [new_zero c1 he, bind_some_, if_pos h, bind_some_, bind_some_, if_pos h, bind_some_, bind_some_, if_pos h, bind_some_]
    simp only
    rw [if_pos (show (e != e) = false by simp), eql_same _ (by simp), bind_some_, if_neg (by decide), if_neg (by rw [ne_f]; exact he)]

end Go.Proofs.YtdcbapdakaaeoaaGreat.Pure
