/- SlewTracks: the pure statement, proved. -/
import Derived.Test.YtionphbdphbpnaaEA0
import Derived.Test.YtionphbdphbpnaaEA1
import Derived.Test.YtionphbdphbpnaaEA2
import Derived.Test.YtionphbdphbpnaaEA3
import Derived.Test.YtionphbdphbpnaaPl
import Derived.Test.YtionphbdphbpnaaLemNum
import Derived.Test.YtionphbdphbpnaaLemDiv
import Derived.Test.YtionphbdphbpnaaLemNight
import Derived.Test.YtionphbdphbpnaaLemAim
import Derived.Test.YtionphbdphbpnaaLemSlew
namespace Go.Proofs.Ytionphbdphbpnaa.Pure
set_option linter.unusedVariables false
set_option linter.unusedSimpArgs false
open Go Go.RowKit Go.Proofs.Ytionphbdphbpnaa.Pv Go.Proofs.Ytionphbdphbpnaa.Pl Go.Proofs.Ytionphbdphbpnaa.EA

theorem aim_same (n : Night) (v : Int × Int × Int) (k : Int) (hn : prop_CheckNight n = some 0) : Same (fun _ => True) (slew_Aim n v k) (spyref2_Aim n v k) := by
  rw [slew_Aim_eq, spyref2_Aim_eq, hn, bind_some_, if_neg (by decide)]
  refine .ite Iff.rfl (fun _ => .ite Iff.rfl (fun _ => .mk _ trivial) (fun _ => ?_)) (fun _ => .mk _ trivial)
  obtain ⟨a, ha⟩ := angle_def (r := n.2.1) (IntKind.i64.wrap (n.2.2.1 + (IntKind.i64.wrap (k * n.2.2.2.1))))
  obtain ⟨p, hp⟩ := horizonAim_def n.1 a v
  rw [ha, bind_some_, hp, bind_some_]
  exact .mk _ trivial
theorem aim_wf {n : Night} {v : Int × Int × Int} {k : Int} {p : (Int × Int) × Int} (h : slew_Aim n v k = some p) : (Lit.int .i64 p.1.1).wf = true ∧ (Lit.int .i64 p.1.2).wf = true := by
  have z : (Lit.int .i64 0).wf = true := by decide
  have at0 : ∀ {y x : Int} {r : Int × Int}, trig_Atan2 y x = some r → -4294967296 < r.1 ∧ r.1 < 4294967296 := by
    intro y x r h
    have tm : ∀ a : Int, -4294967296 < Int.tmod a 4294967296 ∧ Int.tmod a 4294967296 < 4294967296 := by
      intro a
      have h1 := Int.tmod_lt_of_pos a (show (0 : Int) < 4294967296 by omega)
      have h2 := Int.lt_tmod_of_pos a (show (0 : Int) < 4294967296 by omega)
      omega
    have p10 : ∀ a, trig_Atan2.p10 y x a = some r → -4294967296 < r.1 ∧ r.1 < 4294967296 := by
      intro a h
      rw [trig_Atan2.p10_eq] at h
      split at h <;> split at h <;> (cases h; exact tm _)
    have p5 : trig_Atan2.p5 y x = some r → -4294967296 < r.1 ∧ r.1 < 4294967296 := by
      intro h
      rw [trig_Atan2.p5_eq] at h
      obtain ⟨o1, q1⟩ := octant_def (if y < (IntKind.i64.wrap (0 - y)) then (IntKind.i64.wrap (0 - y)) else y) (if x < (IntKind.i64.wrap (0 - x)) then (IntKind.i64.wrap (0 - x)) else x)
      obtain ⟨o2, q2⟩ := octant_def (if x < (IntKind.i64.wrap (0 - x)) then (IntKind.i64.wrap (0 - x)) else x) (if y < (IntKind.i64.wrap (0 - y)) then (IntKind.i64.wrap (0 - y)) else y)
      rw [q1, q2, bind_some_, bind_some_] at h
      by_cases c : decide ((if y < (IntKind.i64.wrap (0 - y)) then (IntKind.i64.wrap (0 - y)) else y) ≤ (if x < (IntKind.i64.wrap (0 - x)) then (IntKind.i64.wrap (0 - x)) else x)) = true
      · rw [if_pos c] at h
        exact p10 _ h
      · rw [if_neg c] at h
        exact p10 _ h
    rw [trig_Atan2_eq] at h
    have four : ∀ e : Int, some ((0 : Int), e) = some r → -4294967296 < r.1 ∧ r.1 < 4294967296 := by
      intro e h
      cases h
      show -4294967296 < (0 : Int) ∧ (0 : Int) < 4294967296
      decide
    split at h
    · split at h
      · split at h
        · split at h
          · exact four _ h
          · split at h
            · split at h
              · exact four _ h
              · exact p5 h
            · exact p5 h
        · exact four _ h
      · exact four _ h
    · exact four _ h
  have wf : ∀ x : Int, -9223372036854775808 ≤ x → x ≤ 9223372036854775807 → (Lit.int .i64 x).wf = true := by
    intro x h0 h1
    simp [Lit.wf, IntKind.min, IntKind.max, IntKind.signed, IntKind.bits]
    omega
  have hz : ∀ {s : Int × Int} {t : Int} {v : Int × Int × Int} {p : (Int × Int) × Int}, horizon_Aim s t v = some p → (Lit.int .i64 p.1.1).wf = true ∧ (Lit.int .i64 p.1.2).wf = true := by
    intro s t v p h
    have c1 : ∀ a, Def (horizon_Aim_c1 a) := fun a => by rw [horizon_Aim_c1_eq]; exact (cos_def _).bind fun _ _ => .mk _
    have c2 : ∀ a, Def (horizon_Aim_c1_1 a) := fun a => by rw [horizon_Aim_c1_1_eq]; exact (sin_def _).bind fun _ _ => .mk _
    have sq : ∀ a, Def (num_Sqrt a) := fun a => by rw [num_Sqrt_eq]; exact (sqrtMul_def _ _).bind fun _ _ => .mk _
    rw [horizon_Aim_eq] at h
    obtain ⟨x0, e⟩ := site_def s
    rw [e, bind_some_] at h
    obtain ⟨x1, e⟩ := sphereCheck_def v
    rw [e, bind_some_] at h
    obtain ⟨x2, e⟩ : Def (cmp_Or_api_Errno [x0, x1]) := ⟨_, or_errs _ _⟩
    rw [e, bind_some_] at h
    split at h
    · cases h
      exact ⟨z, z⟩
    obtain ⟨r3, e⟩ := grow_def v
    rw [e, bind_some_] at h
    obtain ⟨_, e⟩ := c1 (IntKind.i64.wrap ((IntKind.i64.wrap (bitop .and .i64 t 4294967295)) + s.2))
    rw [e, bind_some_] at h
    obtain ⟨_, e⟩ := c2 (IntKind.i64.wrap ((IntKind.i64.wrap (bitop .and .i64 t 4294967295)) + s.2))
    rw [e, bind_some_] at h
    rw [Option.bind_eq_some_iff] at h
    obtain ⟨r6, _, h⟩ := h
    rw [Option.bind_eq_some_iff] at h
    obtain ⟨r7, _, h⟩ := h
    rw [Option.bind_eq_some_iff] at h
    obtain ⟨r8, _, h⟩ := h
    rw [Option.bind_eq_some_iff] at h
    obtain ⟨r9, _, h⟩ := h
    rw [Option.bind_eq_some_iff] at h
    obtain ⟨r10, _, h⟩ := h
    rw [Option.bind_eq_some_iff] at h
    obtain ⟨r11, _, h⟩ := h
    rw [Option.bind_eq_some_iff] at h
    obtain ⟨r12, h12, h⟩ := h
    rw [Option.bind_eq_some_iff] at h
    obtain ⟨r13, _, h⟩ := h
    rw [Option.bind_eq_some_iff] at h
    obtain ⟨r14, h14, h⟩ := h
    have b1 := at0 h12
    have b2 := at0 h14
    split at h
    · cases h
      have := wi_pos (r14.1 - 4294967296)
      exact ⟨wf _ (by simp only; omega) (by simp only; omega), wf _ this.1 this.2⟩
    · cases h
      exact ⟨wf _ (by simp only; omega) (by simp only; omega), wf _ (by simp only; omega) (by simp only; omega)⟩
  rw [slew_Aim_eq] at h
  obtain ⟨e, he⟩ := (night_eq n).2
  rw [(night_eq n).1, he, bind_some_] at h
  split at h
  · cases h
    exact ⟨z, z⟩
  split at h
  · split at h
    · cases h
      exact ⟨z, z⟩
    · obtain ⟨a, ha⟩ := angle_def (r := n.2.1) (IntKind.i64.wrap (n.2.2.1 + (IntKind.i64.wrap (k * n.2.2.2.1))))
      rw [ha, bind_some_, bind_id] at h
      exact hz h
  · cases h
    exact ⟨z, z⟩
theorem jump_same (p q : Int) (h1 : -17179869184 ≤ p) (h2 : p ≤ 17179869184) (h3 : -17179869184 ≤ q) (h4 : q ≤ 17179869184) : ∃ d, slew_abs (IntKind.i64.wrap (p - q)) = some d ∧ spyref2_distance p q = some d := by
  refine ⟨((p - q).natAbs : Int), ?_, ?_⟩
  · rw [wi (x := p - q) (by omega) (by omega), abs_eq _ (by omega) (by omega)]
  · rw [dist_eq _ _ (by omega) (by omega) (by omega) (by omega)]
theorem track_same (m : Mt) (n : Night) (v : Int × Int × Int) (to : Int) (hn : prop_CheckNight n = some 0) (ht : to ≤ 64) (b : Int × Int) : ∀ (u : Nat) (k : Int) (at_ : Int × Int), 0 ≤ k → to - k ≤ u → k ≤ 64 → (m.1.1 ≤ at_.1 ∧ at_.1 ≤ m.1.2.1) → (m.2.1.1 ≤ at_.2 ∧ at_.2 ≤ m.2.1.2.1) → MtOk m →
    Same (fun _ => True) (slew_Track.p10 to (k + 1) m n at_ v b) (spyref2_Track.p4 to k m n at_ v b) := by
  intro u
  induction u with
  | zero =>
    intro k at_ h0 h1 h2 h3 h4 hm
    rw [slew_Track.p10_eq, spyref2_Track.p4_eq]
    exact .ite (by rw [dt, dt]; omega) (fun q => by rw [dt] at q; omega) (fun _ => .mk _ trivial)
  | succ u ih =>
    intro k at_ h0 h1 h2 h3 h4 hm
    have A := fault_ok hm.az
    have B := fault_ok hm.alt
    rw [slew_Track.p10_eq, spyref2_Track.p4_eq]
    refine .ite (by rw [dt, dt]; omega) (fun hk => ?_) (fun _ => .mk _ trivial)
    rw [dt] at hk
    rw [wi (x := k + 1) (by omega) (by omega)]
    obtain ⟨p, p1, p2, _⟩ := aim_same n v (k + 1) hn
    have w := aim_wf p1
    rw [p1, p2, bind_some_, bind_some_]
    refine .ite Iff.rfl (fun _ => .mk _ trivial) (fun _ => ?_)
    refine (to_all m at_ p.1 w.1 w.2).bind fun r hr => .ite Iff.rfl (fun _ => .mk _ trivial) (fun hz => ?_)
    have ok := hr (by simpa using hz)
    have a1 := A.lo
    have a2 := A.hi
    have b1 := B.lo
    have b2 := B.hi
    have c1 := ok.p1
    have c2 := ok.p2
    obtain ⟨d, d1, d2⟩ := jump_same r.1.1 at_.1 (by omega) (by omega) (by omega) (by omega)
    obtain ⟨e, e1, e2⟩ := jump_same r.1.2 at_.2 (by omega) (by omega) (by omega) (by omega)
    rw [d1, d2, bind_some_, bind_some_]
    refine .ite Iff.rfl (fun _ => ?_) (fun _ => .mk _ trivial)
    rw [e1, e2, bind_some_, bind_some_]
    refine .ite Iff.rfl (fun _ => .mk _ trivial) (fun _ => ?_)
    rw [wi (x := k + 1 + 1) (by omega) (by omega)]
    exact ih (k + 1) r.1 (by omega) (by omega) (by omega) ok.p1 ok.p2 hm
theorem trackAll (m : Mt) (n : Night) (at_ : Int × Int) (v : Int × Int × Int) (fr to : Int) (hm : slew_CheckMount m = some 0) (hn : prop_CheckNight n = some 0) (ok : NightOk n) (mk : MtOk m) : Same (fun _ => True) (slew_Track m n at_ v fr to) (spyref2_Track m n at_ v fr to) := by
  have hs := ok.slots
  rw [slew_Track_eq, spyref2_Track_eq, hm, bind_some_, if_neg (by decide), hn, bind_some_, if_neg (by decide)]
  obtain ⟨⟨a0, a1, a2, a3⟩, ⟨b0, b1, b2, b3⟩, p, q⟩ := m
  simp only [in_eq, within_eq, bind_some_]
  refine .ite Iff.rfl (fun h1 => .ite Iff.rfl (fun h2 => .ite Iff.rfl (fun h3 => .ite Iff.rfl (fun h4 => .ite Iff.rfl (fun _ => .mk _ trivial) (fun h5 => ?_)) (fun _ => .mk _ trivial)) (fun _ => .mk _ trivial)) (fun _ => .mk _ trivial)) (fun _ => .mk _ trivial)
  rw [not_f, dt] at h1 h2
  rw [df] at h3 h4
  rw [dt] at h5
  rw [wi (x := fr + 1) (by omega) (by omega)]
  exact track_same ((a0, a1, a2, a3), (b0, b1, b2, b3), p, q) n v to hn (by omega) (0, 0) 64 fr at_ (by omega) (by omega) (by omega) h1 h2 mk
theorem SlewTracks : ∀ (x0 : (Int × Int × Int × Int) × (Int × Int × Int × Int) × Int × Int) (x1 : (Int × Int) × (Int × Int × Int × Int) × Int × Int × Int × (Int × Int × Int) × (Int × Int × Int) × Int × List Int) (x2 : Int × Int) (x3 : Int × Int × Int) (x4 : Int) (x5 : Int), goodT Try.prog (.prod (.prod (.int .i64) (.prod (.int .i64) (.prod (.int .i64) (.int .i64)))) (.prod (.prod (.int .i64) (.prod (.int .i64) (.prod (.int .i64) (.int .i64)))) (.prod (.int .i64) (.int .i64)))) x0 → goodT Try.prog (.prod (.prod (.int .i64) (.int .i64)) (.prod (.prod (.int .i64) (.prod (.int .i64) (.prod (.int .i64) (.int .i64)))) (.prod (.int .i64) (.prod (.int .i64) (.prod (.int .i64) (.prod (.prod (.int .i64) (.prod (.int .i64) (.int .i64))) (.prod (.prod (.int .i64) (.prod (.int .i64) (.int .i64))) (.prod (.int .i64) (.list false 3 (.int .i64)))))))))) x1 → goodT Try.prog (.prod (.int .i64) (.int .i64)) x2 → goodT Try.prog (.prod (.int .i64) (.prod (.int .i64) (.int .i64))) x3 → goodT Try.prog (.int .i64) x4 → goodT Try.prog (.int .i64) x5 → spylaw2_SlewTracks x0 x1 x2 x3 x4 x5 = some true := by
  intro m n at_ v fr to hm hn hat hv hf ht
  rw [spylaw2_SlewTracks_eq, axes_ok, bind_some_, if_neg (by decide)]
  obtain ⟨e, m1, m2, m3⟩ := mount_all m
  obtain ⟨hnight, f, hf⟩ := night_eq n
  have p7 : ∀ (e w : Int) (q : Int × Int), (w ≠ 0 → q = (0, 0) ∧ e = w) → (w = 0 → spyref2_Track m n at_ v fr to = some (q, e)) → spylaw2_SlewTracks.p7 fr to e w m n at_ v q = some true := by
    intro e w q h1 h2
    rw [spylaw2_SlewTracks.p7_eq]
    by_cases hw : w = 0
    · rw [if_neg (by rw [ne_t]; exact fun q => q hw), h2 hw, bind_some_, if_pos (by simp)]
      simp
    · obtain ⟨rfl, rfl⟩ := h1 hw
      rw [if_pos (by rw [ne_t]; exact hw), if_pos (by decide)]
      simp
  by_cases he : e = 0
  · subst he
    by_cases h0 : f = 0
    · subst h0
      obtain ⟨r, r1, r2, _⟩ := trackAll m n at_ v fr to m1 (hnight.trans hf) (night_ok hf) (m3 rfl)
      rw [r1, bind_some_, m2, bind_some_, if_pos (by decide), hf, bind_some_]
      exact p7 _ _ _ (fun q => absurd rfl q) (fun _ => r2)
    · rw [slew_Track_eq, m1, bind_some_, if_neg (by decide), hnight, hf, bind_some_, if_pos (by rw [ne_t]; exact h0), bind_some_, m2, bind_some_, if_pos (by decide), bind_some_]
      exact p7 _ _ _ (fun _ => ⟨rfl, rfl⟩) (fun q => absurd q h0)
  · rw [slew_Track_eq, m1, bind_some_, if_pos (by rw [ne_t]; exact he), bind_some_, m2, bind_some_, if_neg (by rw [eq_t]; exact he)]
    exact p7 _ _ _ (fun _ => ⟨rfl, rfl⟩) (fun q => absurd q he)

end Go.Proofs.Ytionphbdphbpnaa.Pure
