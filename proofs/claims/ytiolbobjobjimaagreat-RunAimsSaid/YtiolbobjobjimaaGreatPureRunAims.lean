/- RunAims: the pure statement, proved. -/
import Derived.Test.YtiolbobjobjimaaGreatEA0
import Derived.Test.YtiolbobjobjimaaGreatEA1
import Derived.Test.YtiolbobjobjimaaGreatEA2
import Derived.Test.YtiolbobjobjimaaGreatEA3
import Derived.Test.YtiolbobjobjimaaGreatEA4
import Derived.Test.YtiolbobjobjimaaGreatEA5
import Derived.Test.YtiolbobjobjimaaGreatEA6
import Derived.Test.YtiolbobjobjimaaGreatPl
import Derived.Test.YtiolbobjobjimaaGreatLemAA
import Derived.Test.YtiolbobjobjimaaGreatLemAB
import Derived.Test.YtiolbobjobjimaaGreatLemAC
import Derived.Test.YtiolbobjobjimaaGreatLemAG
import Derived.Test.YtiolbobjobjimaaGreatLemAH
namespace Go.Proofs.YtiolbobjobjimaaGreat.Pure
set_option linter.unusedVariables false
set_option linter.unusedSimpArgs false
open Go Go.RowKit Go.Proofs.YtiolbobjobjimaaGreat.Pv Go.Proofs.YtiolbobjobjimaaGreat.Pl Go.Proofs.YtiolbobjobjimaaGreat.EA

/-! Where a request points. -/
theorem dir_run (l : List Req) (id : Int) (b : Int × Int × Int) (hl : l.length ≤ 16) : ∀ (u k : Nat), l.length - k = u → k ≤ l.length → ∀ j : Nat, spyref2_IndexOf.p2 id l l.length k = some (j : Int) → run_direction.p2 id l l.length k b = some (l.getD j zreq).2.2.1 := by
  intro u
  induction u with
  | zero =>
    intro k hu hk j h
    rw [spyref2_IndexOf.p2_eq, if_neg (by rw [dt]; omega)] at h
    have := Option.some.inj h
    omega
  | succ u ih =>
    intro k hu hk j h
    have hz : (0, 0, (0, 0, 0), 0, 0, 0, 0, 0, 0, 0, 0) = zreq := rfl
    rw [spyref2_IndexOf.p2_eq, if_pos (by rw [dt]; omega), if_pos (by omega), if_pos (by omega), toNat_nat, wi_nat (by omega)] at h
    rw [run_direction.p2_eq, if_pos (by rw [dt]; omega), if_pos (by omega), if_pos (by omega), toNat_nat, wi_nat (by omega), hz]
    rw [hz] at h
    by_cases c : ((l.getD k zreq).1 == id) = true
    · rw [if_pos c] at h ⊢
      have : k = j := by have := Option.some.inj h; omega
      rw [this]
    · rw [if_neg c] at h ⊢
      exact ih (k + 1) (by omega) (by omega) j h
theorem point_val {p : Progr} (pk : ProgOk p) {id : Int} {j : Nat} (h : spyref2_IndexOf p id = some (j : Int)) : run_direction p id = some (p.2.getD j zreq).2.2.1 := by
  rw [spyref2_IndexOf_eq] at h
  rw [run_direction_eq]
  exact dir_run p.2 id (0, 0, 0) pk.reqs _ 0 rfl (by omega) j h
/-! The poses of a visit. -/
section
variable {n : Night} {m : Mount_} {p : Progr} {cl : List (List Int)} {aim : List (List (Int × Int))}
structure Poses (n : Night) (m : Mount_) (v : Int × Int × Int) (S : Int) (L : Nat) (x : Int × Int) (Y : Nat → Int × Int) : Prop where
  zero : Y 0 = x
  in_ : ∀ k, k ≤ L → InM m (Y k)
  all : ∀ k : Nat, k ≤ L → slew_Track m n x v S (S + k) = some (Y k, 0)
  one : ∀ k : Nat, k < L → slew_Track m n (Y k) v (S + k) (S + (k + 1 : Nat)) = some (Y (k + 1), 0)
theorem poses_of (hn : prop_CheckNight n = some 0) (hm : slew_CheckMount m = some 0) (ok : NightOk n) (mk : MtOk m) {v : Int × Int × Int} (hv : sphere_Check v = some 0) {S : Int} {L : Nat} {x t : Int × Int} (h0 : 0 ≤ S) (h1 : S + L ≤ n.2.2.2.2.1) (hx : InM m x) (ht : slew_Track m n x v S (S + L) = some (t, 0)) : ∃ Y, Poses n m v S L x Y := by
  rw [track_val m n x v S (S + L) hm hn ok hx h0 (by omega) h1] at ht
  have key : ∀ k : Nat, ∃ y, k ≤ L → InM m y ∧ slew_Track.p10 (S + k) (S + 1) m n x v (0, 0) = some (y, 0) ∧ slew_Track.p10 (S + L) (S + k + 1) m n y v (0, 0) = some (t, 0) := fun k => by
    by_cases c : k ≤ L
    · obtain ⟨y, y1, y2, y3⟩ := track_cut hn ok mk hv (0, 0) h1 _ (S + 1) (S + k) x rfl (by omega) (by omega) (by omega) hx ht
      exact ⟨y, fun _ => ⟨y1, y2, y3⟩⟩
    · exact ⟨x, fun h => absurd h c⟩
  obtain ⟨Y, hY⟩ := Classical.skolem.1 key
  refine ⟨Y, ?_, fun k hk => (hY k hk).1, fun k hk => ?_, fun k hk => ?_⟩
  · have a := (hY 0 (by omega)).2.1
    rw [track_end m n v (0, 0) _ _ x (by omega)] at a
    exact (congrArg Prod.fst (Option.some.inj a)).symm
  · rw [track_val m n x v S (S + k) hm hn ok hx h0 (by omega) (by omega)]
    exact (hY k hk).2.1
  · obtain ⟨a1, a2, a3⟩ := hY k (by omega)
    obtain ⟨b1, b2, b3⟩ := hY (k + 1) (by omega)
    rw [track_val m n (Y k) v (S + k) (S + (k + 1 : Nat)) hm hn ok a1 (by omega) (by omega) (by omega)]
    obtain ⟨y, y1, y2, y3⟩ := track_cut hn ok mk hv (0, 0) (c := S + (k + 1 : Nat)) (by omega) _ (S + 1) (S + k) x rfl (by omega) (by omega) (by omega) hx b2
    rw [a2] at y2
    have := congrArg Prod.fst (Option.some.inj y2)
    simp only at this
    subst this
    exact y3
theorem range_step {α : Type} (Y : Nat → α) (k u : Nat) (acc : List α) : acc ++ [Y k] ++ (List.range' (k + 1) u).map Y = acc ++ (List.range' k (u + 1)).map Y := by
  rw [List.range'_succ, List.map_cons, List.append_assoc, List.singleton_append]
theorem prog_poses {v : Int × Int × Int} {S : Int} {L : Nat} {x : Int × Int} {Y : Nat → Int × Int} (h : Poses n m v S L x Y) (hL : L ≤ 8) (hS : 0 ≤ S ∧ S ≤ 64) (t50 : List (Int × Int × Int × Int)) (t51 t52 : Int) (d : Desk_) (s : State_) (w : Int × Int × Int × Int) (hw : w.2.2.1 = S) (out : List (List (Int × Int))) : ∀ (u k : Nat) (acc : List (Int × Int)), L - k = u → k ≤ L → acc.length ≤ k → run_Aims.p17 t50 t51 t52 L k n m p d s w v x out acc = run_Aims.p17 t50 t51 t52 L L n m p d s w v x out (acc ++ (List.range' k u).map Y) := by
  intro u
  induction u with
  | zero =>
    intro k acc hu hk ha
    obtain rfl : k = L := by omega
    simp
  | succ u ih =>
    intro k acc hu hk ha
    conv => lhs; rw [run_Aims.p17_eq]
    rw [if_pos (by rw [dt]; omega), hw, wi (x := S + (k : Int)) (by omega) (by omega), h.all k hk, bind_some_, if_pos (by omega), wi_nat (by omega), ih (k + 1) _ (by omega) (by omega) (by rw [List.length_append, List.length_singleton]; omega), range_step]
theorem ref_poses {r : Req} {S : Int} {L : Nat} {x : Int × Int} {Y : Nat → Int × Int} (h : Poses n m r.2.2.1 S L x Y) (hL : L ≤ 8) (hS : 0 ≤ S ∧ S ≤ 64) (t50 : List (Int × Int × Int × Int)) (t51 t52 : Int) (t : Night × Mount_ × Progr × List (List Int)) (s : State_) (w : Int × Int × Int × Int) (hw : w.2.2.1 = S) (hl : w.2.2.2 = (L : Int)) (out : List (List (Int × Int))) : ∀ (u k : Nat) (acc : List (Int × Int)), L - (k + 1) = u → k + 1 ≤ L → acc.length ≤ k + 1 → ∃ y, spyref2_AimsOf.p12 ((k + 1 : Nat) : Int) t50 t51 t52 n m p t s w r (Y k) out acc = spyref2_AimsOf.p12 L t50 t51 t52 n m p t s w r y out (acc ++ (List.range' (k + 1) u).map Y) := by
  intro u
  induction u with
  | zero =>
    intro k acc hu hk ha
    obtain rfl : k + 1 = L := by omega
    exact ⟨Y k, by simp⟩
  | succ u ih =>
    intro k acc hu hk ha
    obtain ⟨y, e⟩ := ih (k + 1) (acc ++ [Y (k + 1)]) (by omega) (by omega) (by rw [List.length_append, List.length_singleton]; omega)
    refine ⟨y, ?_⟩
    conv => lhs; rw [spyref2_AimsOf.p12_eq]
    rw [if_pos (by rw [dt, hl]; omega), hw, wi (x := S + ((k + 1 : Nat) : Int)) (by omega) (by omega), wi (x := S + ((k + 1 : Nat) : Int) - 1) (by omega) (by omega), show S + ((k + 1 : Nat) : Int) - 1 = S + (k : Int) by omega, h.one k (by omega), bind_some_, if_pos (by omega), wi_nat (by omega), e, range_step]
/-! The aims of all visits. -/
theorem visits_step {l : List (Int × Int × Int × Int)} {b s q : State_} {k : Nat} (hk : k < l.length) (hl : l.length ≤ 64) (h : spyref2_Table_Visits.p5 l l.length k (n, m, p, cl) b s = some (q, 0)) : ∃ s', spyref2_Table_Visit (n, m, p, cl) s (l.getD k (0, 0, 0, 0)) = some (s', 0) ∧ spyref2_Table_Visits.p5 l l.length ((k + 1 : Nat) : Int) (n, m, p, cl) b s' = some (q, 0) := by
  rw [spyref2_Table_Visits.p5_eq, if_pos (by rw [dt]; omega), if_pos (by omega), if_pos (by omega), toNat_nat, wi_nat (by omega)] at h
  obtain ⟨r, r1, h⟩ := bind_inv h
  by_cases e : r.2 = 0
  · rw [if_neg (by rw [ne_t]; exact fun z => z e)] at h
    exact ⟨r.1, by rw [r1, ← e], h⟩
  · rw [if_pos (by rw [ne_t]; exact e)] at h
    exact absurd (congrArg Prod.snd (Option.some.inj h)) e
theorem aims_run (hn : prop_CheckNight n = some 0) (hm : slew_CheckMount m = some 0) (ok : NightOk n) (mk : MtOk m) (pk : ProgOk p) (dk : DeskOk n p cl aim) (l : List (Int × Int × Int × Int)) (hl : l.length ≤ 64) (b q : State_) : ∀ (u k : Nat) (s : State_) (out : List (List (Int × Int))), l.length - k = u → k ≤ l.length → Fits n m p s → spyref2_Table_Visits.p5 l l.length k (n, m, p, cl) b s = some (q, 0) → out.length ≤ k → (∀ r, r ∈ out → r.length ≤ 8) →
    ∃ res, run_Aims.p10 l l.length k n m p (n, m, p, cl, aim) s out = some (res, 0) ∧ spyref2_AimsOf.p5 l l.length k n m p (n, m, p, cl) s out = some res ∧ res.length ≤ 64 ∧ ∀ r, r ∈ res → r.length ≤ 8 := by
  have h64 := ok.slots
  have hr := pk.reqs
  intro u
  induction u with
  | zero =>
    intro k s out hu hk hs hv ho hro
    rw [run_Aims.p10_eq, spyref2_AimsOf.p5_eq, if_neg (by rw [dt]; omega), if_neg (by rw [dt]; omega)]
    exact ⟨out, rfl, rfl, by omega, hro⟩
  | succ u ih =>
    intro k s out hu hk hs hv ho hro
    obtain ⟨s', v1, v2⟩ := visits_step (by omega) hl hv
    obtain ⟨i, a, x, t, md⟩ := visit_made hn hm ok mk pk hs.ok v1
    obtain ⟨s2, e, e1, e2, _, e4⟩ := step_fit hn hm ok mk pk dk hs (l.getD k (0, 0, 0, 0))
    rw [v1] at e2
    have ee := Option.some.inj e2
    have es : s2 = s' := (congrArg Prod.fst ee).symm
    have ez : e = 0 := (congrArg Prod.snd ee).symm
    subst es
    subst ez
    obtain ⟨f1, _⟩ := e4 rfl
    obtain ⟨steps, to⟩ := md.to
    have rl := req_len pk md.hi
    have hz : (0, 0, (0, 0, 0), 0, 0, 0, 0, 0, 0, 0, 0) = zreq := rfl
    rw [hz] at rl
    generalize hw : l.getD k (0, 0, 0, 0) = w at *
    have l1 := md.len
    have l2 := md.lo
    have l3 := md.hi_
    have hslot := hs.slot
    obtain ⟨L, hL⟩ : ∃ L : Nat, w.2.2.2 = (L : Int) := ⟨w.2.2.2.toNat, by omega⟩
    have tr := md.track
    rw [hL] at tr l3 l1
    obtain ⟨Y, hY⟩ := poses_of hn hm ok mk (request_dir (req_fault pk md.hi)) (by omega) l3 md.at_ tr
    have A := prog_poses (p := p) hY (by omega) (by omega) l l.length k (n, m, p, cl, aim) s w rfl out _ 0 [] rfl (by omega) (by simp)
    obtain ⟨y, B⟩ := ref_poses (p := p) hY (by omega) (by omega) l l.length k (n, m, p, cl) s w rfl hL out _ 0 [Y 0] rfl (by omega) (by simp)
    rw [show ((0 : Nat) : Int) = 0 from rfl] at A
    have ys : [Y 0] ++ (List.range' (0 + 1) (L - (0 + 1))).map Y = (List.range' 0 L).map Y := by
      have := range_step Y 0 (L - 1) []
      rw [List.nil_append, List.nil_append, Nat.sub_add_cancel (by omega)] at this
      exact this
    have lim : (out.length + 1) * 24 ≤ 140737488355328 := by omega
    obtain ⟨res, n1, n2, n3, n4⟩ := ih (k + 1) s2 (out ++ [(List.range' 0 L).map Y]) (by omega) (by omega) f1 v2 (by rw [List.length_append, List.length_singleton]; omega) (fun r hr => by
      rcases List.mem_append.1 hr with h | h
      · exact hro r h
      · rw [List.mem_singleton.1 h]; simp; omega)
    refine ⟨res, ?_, ?_, n3, n4⟩
    · rw [run_Aims.p10_eq, if_pos (by rw [dt]; omega), if_pos (by omega), if_pos (by omega), toNat_nat, hw, point_val pk md.idx, bind_some_, md.aim, bind_some_, to, bind_some_, hL, A, run_Aims.p17_eq, if_neg (by rw [dt]; omega), if_pos lim, e1, bind_some_, wi_nat (by omega), List.nil_append, Nat.sub_zero]
      exact n1
    · rw [spyref2_AimsOf.p5_eq, if_pos (by rw [dt]; omega), if_pos (by omega), if_pos (by omega), toNat_nat, hw, md.idx, bind_some_, if_pos (by omega), if_pos (by have := md.hi; omega), hz, toNat_nat, md.aim, bind_some_, to, bind_some_]
      simp only
      have B' : spyref2_AimsOf.p12 1 l l.length k n m p (n, m, p, cl) s w (p.2.getD i zreq) x out [x] = spyref2_AimsOf.p12 L l l.length k n m p (n, m, p, cl) s w (p.2.getD i zreq) y out ([Y 0] ++ (List.range' (0 + 1) (L - (0 + 1))).map Y) := by
        rw [← B, hY.zero]
        rfl
      rw [B', ys, spyref2_AimsOf.p12_eq, if_neg (by rw [dt, hL]; omega), if_pos lim, v1, bind_some_, wi_nat (by omega)]
      exact n2
end
theorem eqP_p4 (l : List (Int × Int)) (hl : l.length ≤ 8) : ∀ (u k : Nat), l.length - k = u → k ≤ l.length → slices_Equal_api_Pose.p4 l l l.length k = some true := by
  intro u
  induction u with
  | zero => intro k hu hk; rw [slices_Equal_api_Pose.p4_eq, if_neg (by rw [dt]; omega)]
  | succ u ih =>
    intro k hu hk
    rw [slices_Equal_api_Pose.p4_eq, if_pos (by rw [dt]; omega), if_pos (by omega), if_pos (by omega), if_pos (by omega), if_pos (by omega), if_neg (by simp), wi_nat (by omega)]
    exact ih (k + 1) (by omega) (by omega)
theorem eqP_same (l : List (Int × Int)) (hl : l.length ≤ 8) : slices_Equal_api_Pose l l = some true := by
  rw [slices_Equal_api_Pose_eq, if_neg (by simp)]
  exact eqP_p4 l hl _ 0 rfl (by omega)
theorem aims_p4 (l : List (List (Int × Int))) (hl : l.length ≤ 64) (h8 : ∀ r, r ∈ l → r.length ≤ 8) : ∀ (u k : Nat), l.length - k = u → k ≤ l.length → slices_EqualFunc_api_Pose.p4 l l l.length k = some true := by
  intro u
  induction u with
  | zero => intro k hu hk; rw [slices_EqualFunc_api_Pose.p4_eq, if_neg (by rw [dt]; omega)]
  | succ u ih =>
    intro k hu hk
    have hlt : k < l.length := by omega
    rw [slices_EqualFunc_api_Pose.p4_eq, if_pos (by rw [dt]; omega), if_pos (by omega), if_pos (by omega), if_pos (by omega), if_pos (by omega), toNat_nat, getD_nat _ _ hlt, eqP_same _ (h8 _ (List.getElem_mem hlt)), bind_some_, if_neg (by decide), wi_nat (by omega)]
    exact ih (k + 1) (by omega) (by omega)
theorem aims_same (l : List (List (Int × Int))) (hl : l.length ≤ 64) (h8 : ∀ r, r ∈ l → r.length ≤ 8) : spylaw2_sameAims l l = some true := by
  rw [spylaw2_sameAims_eq, slices_EqualFunc_api_Pose_eq, if_neg (by simp)]
  rw [show slices_EqualFunc_api_Pose.p4 l l (l.length : Int) 0 = some true from aims_p4 l hl h8 _ 0 rfl (by omega), bind_some_]
theorem runs_ok : spylaw2_runs = some true := callL_some.2 ⟨400, by kernel_rfl⟩
theorem rep_run (r : List (Int × Int × Bool × Bool × Bool × Bool × Bool)) (hr : r.length ≤ 16) : ∀ (u k : Nat), r.length - k = u → k ≤ r.length → Same (fun _ => True) (run_Check.p11 r r.length k) (spyref2_NightRunFault.p14 r r.length k) := by
  intro u
  induction u with
  | zero =>
    intro k hu hk
    rw [run_Check.p11_eq, spyref2_NightRunFault.p14_eq, if_neg (by rw [dt]; omega), if_neg (by rw [dt]; omega)]
    exact .mk _ trivial
  | succ u ih =>
    intro k hu hk
    have next := ih (k + 1) (by omega) (by omega)
    rw [run_Check.p11_eq, spyref2_NightRunFault.p14_eq]
    simp only [in_val, bind_some_, toNat_nat, if_pos (show decide ((k : Int) < (r.length : Int)) = true by rw [dt]; omega), if_pos (show (0 : Int) ≤ (k : Int) by omega), if_pos (show (k : Int) < (r.length : Int) by omega), wi_nat (show k < 9223372036854775807 by omega)]
    generalize r.getD k (0, 0, false, false, false, false, false) = x
    by_cases c1 : x.1 < 0
    · rw [if_neg (by rw [df]; exact fun q => q c1), if_neg (by rw [not_f, dt]; omega)]
      exact .mk _ trivial
    · rw [if_pos (by rw [df]; exact c1)]
      by_cases c2 : x.2.1 < x.1
      · rw [if_neg (by rw [df]; exact fun q => q c2), if_neg (by rw [not_f, dt]; omega)]
        exact .mk _ trivial
      · rw [if_pos (by rw [df]; exact c2), if_pos (show (!decide (0 ≤ x.1 ∧ x.1 ≤ x.2.1)) = false by rw [not_f, dt]; omega)]
        exact .ite Iff.rfl (fun _ => .mk _ trivial) (fun _ => next)
theorem RunAims : ∀ (x0 : (Int × Int) × (Int × Int × Int × Int) × Int × Int × Int × (Int × Int × Int) × (Int × Int × Int) × Int × List Int) (x1 : (Int × Int × Int × Int) × (Int × Int × Int × Int) × Int × Int) (x2 : (List (ByteArray × Int)) × List (Int × Int × (Int × Int × Int) × Int × Int × Int × Int × Int × Int × Int × Int)) (x3 : List (Int × Int × Int × Int)) (x4 : Int) (x5 : List (Int × Int × Bool × Bool × Bool × Bool × Bool)), goodT Tryz.prog (.prod (.prod (.int .i64) (.int .i64)) (.prod (.prod (.int .i64) (.prod (.int .i64) (.prod (.int .i64) (.int .i64)))) (.prod (.int .i64) (.prod (.int .i64) (.prod (.int .i64) (.prod (.prod (.int .i64) (.prod (.int .i64) (.int .i64))) (.prod (.prod (.int .i64) (.prod (.int .i64) (.int .i64))) (.prod (.int .i64) (.list false 3 (.int .i64)))))))))) x0 → goodT Tryz.prog (.prod (.prod (.int .i64) (.prod (.int .i64) (.prod (.int .i64) (.int .i64)))) (.prod (.prod (.int .i64) (.prod (.int .i64) (.prod (.int .i64) (.int .i64)))) (.prod (.int .i64) (.int .i64)))) x1 → goodT Tryz.prog (.prod (.list false 155 (.prod .str (.int .i64))) (.list false 106 (.prod (.int .i64) (.prod (.int .i64) (.prod (.prod (.int .i64) (.prod (.int .i64) (.int .i64))) (.prod (.int .i64) (.prod (.int .i64) (.prod (.int .i64) (.prod (.int .i64) (.prod (.int .i64) (.prod (.int .i64) (.prod (.int .i64) (.int .i64))))))))))))) x2 → goodT Tryz.prog (.list false 93 (.prod (.int .i64) (.prod (.int .i64) (.prod (.int .i64) (.int .i64))))) x3 → goodT Tryz.prog (.int .i64) x4 → goodT Tryz.prog (.list false 85 (.prod (.int .i64) (.prod (.int .i64) (.prod .bool (.prod .bool (.prod .bool (.prod .bool .bool))))))) x5 → spylaw2_RunAims x0 x1 x2 x3 x4 x5 = some true := by
  intro n m p l beats reports hn hm hp hl hb hrep
  obtain ⟨e, c1, c2, c3⟩ := all_same n m p
  rw [spylaw2_RunAims_eq, runs_ok, bind_some_, if_pos (by decide)]
  by_cases he : e = 0
  case neg =>
    have h : (e != 0) = true := by rw [ne_t]; exact he
    have hc : run_Check n m p l beats reports = some e := by
      rw [run_Check_eq, plan_Check_eq, plan_After_eq, new_zero c1 he, bind_some_]
      simp only
      rw [if_pos h, bind_some_, bind_some_, if_pos h]
    have hf : spyref2_NightRunFault n m p l beats reports = some e := by
      rw [spyref2_NightRunFault_eq, c2, bind_some_, if_pos h]
    rw [hc, hf, bind_some_, bind_some_, if_neg (by simp), run_Aims_eq, new_zero c1 he, bind_some_]
    simp only
    rw [if_pos h, bind_some_, c2, bind_some_, if_pos h, if_pos (by simp)]
    rfl
  subst he
  obtain ⟨nok, pok⟩ := c3 rfl
  obtain ⟨hnight, hmount, mok⟩ := all_parts c1
  obtain ⟨cl, aim, dk, d1, d2⟩ := desk_new c1 hnight nok pok
  have h64 := nok.slots
  have hlong := nok.long
  have z0 : ¬ ((0 : Int) != 0) = true := by decide
  obtain ⟨q, e, q1, q2, q3, q4⟩ := visits_same hnight hmount nok mok pok dk l
  have hpc : plan_Check n m p l = some e := by
    rw [plan_Check_eq, plan_After_eq, d1, bind_some_, if_neg z0]
    simp only
    rw [q1, bind_some_, bind_some_]
  have chk : Same (fun _ => True) (run_Check n m p l beats reports) (spyref2_NightRunFault n m p l beats reports) := by
    rw [run_Check_eq, spyref2_NightRunFault_eq, hpc, c2, bind_some_, bind_some_, if_neg z0, d2, bind_some_, q2, bind_some_, in_val, bind_some_]
    simp only
    refine .ite Iff.rfl (fun _ => .mk _ trivial) (fun _ => ?_)
    refine .ite Iff.rfl (fun _ => .mk _ trivial) (fun h3 => ?_)
    rw [ne_t] at h3
    have hm0 : Int.tmod n.2.2.2.1 1000 = 0 := by omega
    obtain ⟨k, hk⟩ : ∃ k, n.2.2.2.1 = 1000 * k := by
      have := Int.dvd_of_tmod_eq_zero hm0
      exact this
    have e1 : Int.tdiv n.2.2.2.1 1000 = k := by rw [hk, Int.mul_tdiv_cancel_left _ (by decide)]
    have pr : n.2.2.2.2.1 * k ≤ 64 * 1800 ∧ 0 ≤ n.2.2.2.2.1 * k := by
      have a : 0 ≤ k ∧ k ≤ 1800 := by omega
      exact ⟨Int.mul_le_mul (by omega) a.2 a.1 (by omega), Int.mul_nonneg (by omega) a.1⟩
    have e2 : n.2.2.2.2.1 * n.2.2.2.1 = 1000 * (n.2.2.2.2.1 * k) := by rw [hk, Int.mul_left_comm]
    rw [e1, wi (x := k) (by omega) (by omega), e2, wi (x := 1000 * (n.2.2.2.2.1 * k)) (by omega) (by omega), Int.mul_tdiv_cancel_left _ (by decide)]
    refine .ite Iff.rfl (fun _ => ?_) (fun _ => .mk _ trivial)
    refine .ite Iff.rfl (fun _ => .mk _ trivial) (fun h5 => ?_)
    rw [dt] at h5
    have run := rep_run reports (by omega) _ 0 rfl (by omega)
    rw [show ((0 : Nat) : Int) = 0 from rfl] at run
    by_cases b1 : beats < 1
    · rw [if_neg (show ¬ decide (beats < 1) = false by rw [df]; exact fun q => q b1), if_pos (show (!decide (1 ≤ beats ∧ beats ≤ 16)) = true by rw [not_t, df]; omega)]
      exact .mk _ trivial
    · rw [if_pos (show decide (beats < 1) = false by rw [df]; exact b1)]
      by_cases b2 : beats > 16
      · rw [if_pos (show decide (beats > 16) = true by rw [dt]; exact b2), if_pos (show (!decide (1 ≤ beats ∧ beats ≤ 16)) = true by rw [not_t, df]; omega)]
        exact .mk _ trivial
      · rw [if_neg (show ¬ decide (beats > 16) = true by rw [dt]; exact b2), if_neg (show ¬ (!decide (1 ≤ beats ∧ beats ≤ 16)) = true by rw [not_t, df]; omega)]
        exact run
  obtain ⟨r, r1, r2, _⟩ := chk
  rw [r1, r2, bind_some_, bind_some_, if_neg (by simp), run_Aims_eq, d1, bind_some_, if_neg z0]
  simp only
  rw [q1, bind_some_]
  by_cases hz : e = 0
  case neg =>
    have h : (e != 0) = true := by rw [ne_t]; exact hz
    simp only
    rw [if_pos h, bind_some_, c2, bind_some_, if_neg z0, d2, bind_some_, q2, bind_some_]
    simp only
    rw [if_pos h, if_pos (by simp)]
    rfl
  subst hz
  have ff : Fits n m p (0, m.2.2, List.replicate p.2.length []) := first_fits nok pok ⟨mok.p, mok.q⟩
  have hr := pok.reqs
  have st : plan_Start m p = some (0, m.2.2, List.replicate p.2.length []) := by
    rw [plan_Start_eq, if_pos rfl, if_pos (by omega), if_pos (by omega)]
  have fv : spyref2_Table_First (n, m, p, cl) = some (0, m.2.2, List.replicate p.2.length []) := by
    rw [spyref2_Table_First_eq, if_pos rfl, if_pos (by simp only; omega), if_pos (by simp only; omega)]
  have v5 : l.length ≤ 64 ∧ spyref2_Table_Visits.p5 l l.length 0 (n, m, p, cl) (0, (0, 0), []) (0, m.2.2, List.replicate p.2.length []) = some (q, 0) := by
    have q2' := q2
    rw [spyref2_Table_Visits_eq] at q2'
    simp only at q2'
    obtain ⟨h, q2'⟩ := ite_z (by decide) q2'
    rw [dt] at h
    rw [fv, bind_some_] at q2'
    exact ⟨by omega, q2'⟩
  obtain ⟨res, a1, a2, a3, a4⟩ := aims_run hnight hmount nok mok pok dk l v5.1 (0, (0, 0), []) q _ 0 (0, m.2.2, List.replicate p.2.length []) [] rfl (by omega) ff v5.2 (by simp) (fun r hr => absurd hr (by simp))
  rw [show ((0 : Nat) : Int) = 0 from rfl] at a1 a2
  simp only
  rw [if_neg z0, st, bind_some_, a1, bind_some_, c2, bind_some_, if_neg z0, d2, bind_some_, q2, bind_some_]
  simp only
  rw [if_neg z0, if_pos (by decide), spyref2_AimsOf_eq, d2, bind_some_, fv, bind_some_, a2, bind_some_, aims_same res a3 a4, bind_some_]

end Go.Proofs.YtiolbobjobjimaaGreat.Pure
