/- One step of the line. -/
import Derived.Test.YtbaekdcacmoniaaEA0
import Derived.Test.YtbaekdcacmoniaaEA1
import Derived.Test.YtbaekdcacmoniaaEA2
import Derived.Test.YtbaekdcacmoniaaPl
import Derived.Test.YtbaekdcacmoniaaLemBus
import Derived.Test.YtbaekdcacmoniaaLemCrc
import Derived.Test.YtbaekdcacmoniaaLemFr
import Derived.Test.YtbaekdcacmoniaaLemLine
import Derived.Test.YtbaekdcacmoniaaLemRun
namespace Go.Proofs.Ytbaekdcacmoniaa.Pure
set_option linter.unusedVariables false
set_option linter.unusedSimpArgs false
open Go Go.RowKit Go.Proofs.Ytbaekdcacmoniaa.Pv Go.Proofs.Ytbaekdcacmoniaa.Pl Go.Proofs.Ytbaekdcacmoniaa.EA

/-! One step of the line. -/
def ToOk (m : Msg) : Prop := (m.2.1 = 1 ∨ m.2.1 = 2) ∧ 0 ≤ m.2.2.1 ∧ m.2.2.1 ≤ 65535
def FroOk (m : Msg) : Prop := m.2.1 = 3 ∨ m.2.1 = 4
abbrev Log_ : Type := List (Int × Int) × List Int × List Int × Int × Int
theorem reply_ok {k s : Int} (hk : k = 3 ∨ k = 4) (hs : 0 ≤ s ∧ s ≤ 65535) : pfault (0, k, s, []) = 0 := by
  have h : pok (0, k, s, []) := by
    unfold pok
    simp only
    omega
  unfold pfault
  rw [if_pos h, if_pos (by simp)]
/-- A message that is heard. -/
theorem hear_val (l : List Cmd_) (th bk : List Fate_) (last : Int) (did : Bool) (now first t t31 t32 t36 : Int) (k : Nat) (b8 : Log_) (y3 y4 : Int) (TO FRO : List Msg) (ex : List (Int × Int)) (rp ar : List Int) (hex : ex.length ≤ 100000000) (hk : k < TO.length) (hkl : TO.length ≤ 100000000) (h36 : t36 = TO.length) {p : Pk} (hm : ToOk TO[k]) (ha : TO[k].1 = t) (hs : TO[k].2.2.2.2 = false) (hp : PkR p TO[k]) :
    (link_device_hear (last, did, ex) p t = some (((0, 0, 0, []), false), last, did, ex) ∧ spylaw2_played.p8 l th bk last did now first t t31 t32 t36 k b8 y3 y4 TO FRO ex rp ar = spylaw2_played.p8 l th bk last did now first t t31 t32 t36 ((k + 1 : Nat) : Int) b8 y3 y4 TO FRO ex rp ar) ∨
    ∃ kd last' did' ex', (kd = 3 ∨ kd = 4) ∧ ex'.length ≤ ex.length + 1 ∧ link_device_hear (last, did, ex) p t = some (((0, kd, TO[k].2.2.1, []), true), last', did', ex') ∧ spylaw2_played.p8 l th bk last did now first t t31 t32 t36 k b8 y3 y4 TO FRO ex rp ar = spylaw2_played.p18 l th bk last' did' now first t kd t31 t32 t36 k b8 y3 y4 TO[k] TO FRO ex' rp ar := by
  obtain ⟨p1, p2, p3⟩ := hp
  obtain ⟨m1, m2, m3⟩ := hm
  have hear : link_device_hear (last, did, ex) p t = if TO[k].2.2.1 < last then some (((0, 0, 0, []), false), last, did, ex) else link_device_hear.p3 t p (0, 0, 0, []) last did ex := by
    rw [link_device_hear_eq]
    simp only
    rw [p1, p2]
    rcases m1 with e | e
    · rw [e, if_neg (show ¬ ((1 : Int) != 1) = true by decide)]
      by_cases c : TO[k].2.2.1 < last
      · rw [if_pos (show decide (TO[k].2.2.1 < last) = true by rw [dt]; exact c), if_pos c]
      · rw [if_neg (show ¬ decide (TO[k].2.2.1 < last) = true by rw [dt]; exact c), if_neg c]
    · rw [e, if_pos (show ((2 : Int) != 1) = true by decide), if_pos (show ((2 : Int) != 2) = false by decide)]
      by_cases c : TO[k].2.2.1 < last
      · rw [if_pos (show decide (TO[k].2.2.1 < last) = true by rw [dt]; exact c), if_pos c]
      · rw [if_neg (show ¬ decide (TO[k].2.2.1 < last) = true by rw [dt]; exact c), if_neg c]
  rw [spylaw2_played.p8_eq, h36, if_pos (show decide ((k : Int) < (TO.length : Int)) = true by rw [dt]; omega), if_pos (show (0 : Int) ≤ (k : Int) by omega), if_pos (show (k : Int) < (TO.length : Int) by omega), toNat_nat, getD_nat _ _ hk, wi_nat (by omega), hear]
  clear hear
  generalize TO[k] = m at *
  rw [if_pos (show (m.1 != t) = false by rw [ne_f]; exact ha), if_pos hs]
  by_cases c : m.2.2.1 < last
  · left
    rw [if_pos c, if_pos (show decide (m.2.2.1 < last) = true by rw [dt]; exact c)]
    exact ⟨rfl, rfl⟩
  · right
    rw [if_neg c, if_neg (show ¬ decide (m.2.2.1 < last) = true by rw [dt]; exact c), link_device_hear.p3_eq, p1, p2]
    by_cases c2 : m.2.2.1 > last
    · have g2 : decide (m.2.2.1 > last) = true := by rw [dt]; exact c2
      rw [if_pos g2, if_pos g2]
      rcases m1 with e | e
      · rw [e, if_pos (show ((1 : Int) == 1) = true by decide), if_pos (show ((1 : Int) == 1) = true by decide), p3 e, bind_some_, spylaw2_played.p13_eq]
        by_cases c3 : t ≤ m.2.2.2.1
        · have d3 : decide (t ≤ m.2.2.2.1) = true := by rw [dt]; exact c3
          rw [d3, if_pos rfl, if_pos rfl, if_pos (by omega), if_pos (by omega), if_pos rfl]
          exact ⟨3, _, _, _, .inl rfl, by rw [List.length_append]; exact Nat.le_refl _, rfl, rfl⟩
        · have d3 : decide (t ≤ m.2.2.2.1) = false := by rw [df]; exact c3
          rw [d3, if_neg Bool.false_ne_true, if_neg Bool.false_ne_true, if_neg Bool.false_ne_true]
          exact ⟨4, _, _, _, .inr rfl, by omega, rfl, rfl⟩
      · rw [e, if_neg (show ¬ ((2 : Int) == 1) = true by decide), if_neg (show ¬ ((2 : Int) == 1) = true by decide), spylaw2_played.p13_eq, if_neg Bool.false_ne_true, if_neg Bool.false_ne_true]
        exact ⟨4, _, _, _, .inr rfl, by omega, rfl, rfl⟩
    · have g2 : ¬ decide (m.2.2.1 > last) = true := by rw [dt]; exact c2
      rw [if_neg g2, if_neg g2]
      cases did with
      | true =>
        rw [if_pos rfl, if_pos rfl]
        exact ⟨3, _, _, _, .inl rfl, by omega, rfl, rfl⟩
      | false =>
        rw [if_neg Bool.false_ne_true, if_neg Bool.false_ne_true]
        exact ⟨4, _, _, _, .inr rfl, by omega, rfl, rfl⟩
theorem skip8 (l : List Cmd_) (th bk : List Fate_) (last : Int) (did : Bool) (now first t t31 t32 t36 : Int) (k : Nat) (b8 : Log_) (y3 y4 : Int) (TO FRO : List Msg) (ex : List (Int × Int)) (rp ar : List Int) (hk : k < TO.length) (hkl : TO.length ≤ 100000000) (h36 : t36 = TO.length) (ha : ¬ atT t TO[k] = true) : spylaw2_played.p8 l th bk last did now first t t31 t32 t36 k b8 y3 y4 TO FRO ex rp ar = spylaw2_played.p8 l th bk last did now first t t31 t32 t36 ((k + 1 : Nat) : Int) b8 y3 y4 TO FRO ex rp ar := by
  rw [spylaw2_played.p8_eq, h36, if_pos (by rw [dt]; omega), if_pos (by omega), if_pos (by omega), toNat_nat, getD_nat _ _ hk, wi_nat (by omega)]
  generalize TO[k] = m at *
  by_cases c : m.1 = t
  · have hs : m.2.2.2.2 = true := by
      cases h : m.2.2.2.2 with
      | true => rfl
      | false => exact absurd (by simp [atT, c, h]) ha
    rw [if_pos (show (m.1 != t) = false by rw [ne_f]; exact c), if_neg (by rw [hs]; decide)]
  · rw [if_neg (show ¬ (m.1 != t) = false by rw [ne_f]; exact c)]
theorem hear1 (l : List Cmd_) (th bk : List Fate_) (hbk : ∀ f, f ∈ bk → FOk f) (t steps : Int) (ht : 0 ≤ t ∧ t ≤ 2000) (b8 c8 : Log_) (o0 : List (Int × Int)) (o3 o4 now first cntT y3 : Int) (rp ar : List Int) (toway : List Prc) (TO : List Msg) (hTO : ∀ m, m ∈ TO → ToOk m) (pks : List Pk) (hpl : pks.length ≤ 100000000) (C CF CE : Nat) (hC : C ≤ 100000000) (hCF : CF ≤ 100000000) (hCE : CE ≤ 100000000) (hTl : TO.length ≤ 100000000) :
    ∀ (u k j : Nat) (last : Int) (did : Bool) (cnt : Int) (froway : List Prc) (FRO : List Msg) (ex : List (Int × Int)), TO.length - k = u → k ≤ TO.length → j ≤ pks.length → All2 PkR (pks.drop j) ((TO.drop k).filter (atT t)) → WayR t froway FRO → (∀ m, m ∈ FRO → FroOk m) → 0 ≤ cnt → cnt + (u : Int) ≤ (C : Int) → FRO.length + 2 * u ≤ CF → ex.length + u ≤ CE →
    ∃ last' did' cnt' froway' FRO' ex', link_Run.p14 t steps t pks pks.length j b8 o0 o3 o4 last did l now first th cntT bk cnt rp ar ex toway froway = link_Run.p14 t steps t pks pks.length pks.length b8 o0 o3 o4 last' did' l now first th cntT bk cnt' rp ar ex' toway froway' ∧
      spylaw2_played.p8 l th bk last did now first t steps t TO.length k c8 y3 cnt TO FRO ex rp ar = spylaw2_played.p8 l th bk last' did' now first t steps t TO.length TO.length c8 y3 cnt' TO FRO' ex' rp ar ∧ WayR t froway' FRO' ∧ (∀ m, m ∈ FRO' → FroOk m) ∧ 0 ≤ cnt' ∧ cnt' ≤ (C : Int) ∧ FRO'.length ≤ CF ∧ ex'.length ≤ CE := by
  intro u
  induction u with
  | zero =>
    intro k j last did cnt froway FRO ex hu hk hj ha hw hf h0 h1 h2 h3
    obtain rfl : k = TO.length := by omega
    have hlen := ha.len
    rw [List.drop_length, List.filter_nil, List.length_nil, List.length_drop] at hlen
    obtain rfl : j = pks.length := by omega
    exact ⟨last, did, cnt, froway, FRO, ex, rfl, rfl, hw, hf, h0, by omega, by omega, by omega⟩
  | succ u ih =>
    intro k j last did cnt froway FRO ex hu hk hj ha hw hf h0 h1 h2 h3
    have hlt : k < TO.length := by omega
    rw [List.drop_eq_getElem_cons hlt] at ha
    by_cases c : atT t TO[k] = true
    · rw [List.filter_cons_of_pos c] at ha
      have hjl : j < pks.length := by
        have := ha.len
        rw [List.length_drop, List.length_cons] at this
        omega
      rw [List.drop_eq_getElem_cons hjl] at ha
      cases ha with
      | cons hp ha =>
        have c' := c
        unfold atT at c'
        rw [Bool.and_eq_true, Bool.not_eq_true'] at c'
        have c1 : TO[k].1 = t := by simpa using c'.1
        have hto := hTO TO[k] (List.getElem_mem hlt)
        have step : link_Run.p14 t steps t pks pks.length j b8 o0 o3 o4 last did l now first th cntT bk cnt rp ar ex toway froway = (link_device_hear (last, did, ex) pks[j] t).bind fun r => if r.1.2 = true then ((link_line_send (bk, froway, cnt) r.1.1 t).bind fun r1 => link_Run.p14 t steps t pks pks.length ((j + 1 : Nat) : Int) b8 o0 o3 o4 r.2.1 r.2.2.1 l now first th cntT r1.2.1 r1.2.2.2 rp ar r.2.2.2 toway r1.2.2.1) else (link_Run.p14 t steps t pks pks.length ((j + 1 : Nat) : Int) b8 o0 o3 o4 r.2.1 r.2.2.1 l now first th cntT bk cnt rp ar r.2.2.2 toway froway) := by
          rw [link_Run.p14_eq, if_pos (by rw [dt]; omega), if_pos (by omega), if_pos (by omega), toNat_nat, getD_nat _ _ hjl, wi_nat (by omega)]
        rw [step]
        rcases hear_val l th bk last did now first t steps t TO.length k c8 y3 cnt TO FRO ex rp ar (by omega) hlt hTl rfl hto c1 c'.2 hp with ⟨e1, e2⟩ | ⟨kd, last', did', ex', q1, q2, e1, e2⟩
        · rw [e1, e2, bind_some_, if_neg Bool.false_ne_true]
          exact ih (k + 1) (j + 1) last did cnt froway FRO ex (by omega) (by omega) (by omega) ha hw hf h0 (by omega) (by omega) (by omega)
        · have hpf := reply_ok q1 hto.2
          have hwl := way_len hw
          have fo := fateAt_ok hbk h0
          have snd := send_val t ht hbk ⟨h0, by omega⟩ froway (by omega) (0, kd, TO[k].2.2.1, []) hpf (fun x h => by cases h)
          have car := new_car fo hpf rfl (.inl rfl) (fun x h => by cases h) t 0 (fun e => by simp only at e; omega)
          rw [show (bodyL (0, kd, TO[k].2.2.1, [])).length = 5 from body_len _] at car
          have nl := new_len (fateAt bk cnt) t kd TO[k].2.2.1 0 5
          rw [e1, e2, bind_some_, if_pos rfl, snd, bind_some_, post18 l th bk hbk last' did' now first t kd steps t TO.length k c8 y3 cnt TO[k] TO FRO ex' rp ar ht ⟨h0, by omega⟩ (by omega), wi_nat (by omega)]
          refine ih (k + 1) (j + 1) last' did' (cnt + 1) _ _ ex' (by omega) (by omega) (by omega) ha (way_new hw car fun m hm => ?_) (fun m hm => ?_) (by omega) (by omega) (by rw [List.length_append]; omega) (by omega)
          · rcases new_mem fo hm with q | ⟨_, q⟩
            · omega
            · exact q.elim
          · rcases List.mem_append.1 hm with q | q
            · exact hf m q
            · have := (new_kind q).1
              unfold FroOk
              omega
    · rw [List.filter_cons_of_neg c] at ha
      rw [skip8 l th bk last did now first t steps t TO.length k c8 y3 cnt TO FRO ex rp ar hlt hTl rfl c]
      exact ih (k + 1) j last did cnt froway FRO ex (by omega) (by omega) hj ha hw hf h0 (by omega) (by omega) (by omega)
theorem skip22 (l : List Cmd_) (th bk : List Fate_) (last : Int) (did : Bool) (now first t t31 t32 t98 : Int) (k : Nat) (b8 : Log_) (y3 y4 : Int) (TO FRO : List Msg) (ex : List (Int × Int)) (rp ar : List Int) (hk : k < FRO.length) (hkl : FRO.length ≤ 100000000) (h98 : t98 = FRO.length) (ha : ¬ atT t FRO[k] = true) : spylaw2_played.p22 l th bk last did now first t t31 t32 t98 k b8 y3 y4 TO FRO ex rp ar = spylaw2_played.p22 l th bk last did now first t t31 t32 t98 ((k + 1 : Nat) : Int) b8 y3 y4 TO FRO ex rp ar := by
  rw [spylaw2_played.p22_eq, h98, if_pos (by rw [dt]; omega), if_pos (by omega), if_pos (by omega), toNat_nat, getD_nat _ _ hk, wi_nat (by omega)]
  generalize FRO[k] = m at *
  by_cases c : m.1 = t
  · have hs : m.2.2.2.2 = true := by
      cases h : m.2.2.2.2 with
      | true => rfl
      | false => exact absurd (by simp [atT, c, h]) ha
    rw [if_pos (show (m.1 == t) = true by rw [eq_t]; exact c), if_neg (by rw [hs]; decide)]
  · rw [if_neg (show ¬ (m.1 == t) = true by rw [eq_t]; exact c)]
theorem hear2 (l : List Cmd_) (hl : l.length ≤ 16) (th bk : List Fate_) (t steps : Int) (b8 c8 : Log_) (o0 : List (Int × Int)) (o3 o4 last : Int) (did : Bool) (first cntT cntB : Int) (ex : List (Int × Int)) (toway froway : List Prc) (TO FRO : List Msg) (hFl : FRO.length ≤ 100000000) (hF : ∀ m, m ∈ FRO → FroOk m) (pks : List Pk) (hpl : pks.length ≤ 100000000) :
    ∀ (u k j : Nat) (now : Int) (rp ar : List Int), FRO.length - k = u → k ≤ FRO.length → j ≤ pks.length → All2 PkR (pks.drop j) ((FRO.drop k).filter (atT t)) → 0 ≤ now → now ≤ (l.length : Int) → rp.length = l.length → ar.length = l.length →
    ∃ now' rp' ar', link_Run.p21 t steps t pks pks.length j b8 o0 o3 o4 last did l now first th cntT bk cntB rp ar ex toway froway = link_Run.p21 t steps t pks pks.length pks.length b8 o0 o3 o4 last did l now' first th cntT bk cntB rp' ar' ex toway froway ∧
      spylaw2_played.p22 l th bk last did now first t steps t FRO.length k c8 cntT cntB TO FRO ex rp ar = spylaw2_played.p22 l th bk last did now' first t steps t FRO.length FRO.length c8 cntT cntB TO FRO ex rp' ar' ∧ 0 ≤ now' ∧ now' ≤ (l.length : Int) ∧ rp'.length = l.length ∧ ar'.length = l.length := by
  intro u
  induction u with
  | zero =>
    intro k j now rp ar hu hk hj ha h0 h1 h2 h3
    obtain rfl : k = FRO.length := by omega
    have hlen := ha.len
    rw [List.drop_length, List.filter_nil, List.length_nil, List.length_drop] at hlen
    obtain rfl : j = pks.length := by omega
    exact ⟨now, rp, ar, rfl, rfl, h0, h1, h2, h3⟩
  | succ u ih =>
    intro k j now rp ar hu hk hj ha h0 h1 h2 h3
    have hlt : k < FRO.length := by omega
    rw [List.drop_eq_getElem_cons hlt] at ha
    by_cases c : atT t FRO[k] = true
    · rw [List.filter_cons_of_pos c] at ha
      have hjl : j < pks.length := by
        have := ha.len
        rw [List.length_drop, List.length_cons] at this
        omega
      rw [List.drop_eq_getElem_cons hjl] at ha
      cases ha with
      | cons hp ha =>
        have c' := c
        unfold atT at c'
        rw [Bool.and_eq_true, Bool.not_eq_true'] at c'
        have c1 : FRO[k].1 = t := by simpa using c'.1
        have hfo := hF FRO[k] (List.getElem_mem hlt)
        obtain ⟨p1, p2, _⟩ := hp
        rw [link_Run.p21_eq, spylaw2_played.p22_eq, if_pos (show decide ((j : Int) < (pks.length : Int)) = true by rw [dt]; omega), if_pos (show decide ((k : Int) < (FRO.length : Int)) = true by rw [dt]; omega)]
        simp only [if_pos (show (0 : Int) ≤ (j : Int) by omega), if_pos (show (j : Int) < (pks.length : Int) by omega), if_pos (show (0 : Int) ≤ (k : Int) by omega), if_pos (show (k : Int) < (FRO.length : Int) by omega), toNat_nat, getD_nat _ _ hjl, getD_nat _ _ hlt, p1, p2, wi_nat (show j < 9223372036854775807 by omega), wi_nat (show k < 9223372036854775807 by omega)]
        have go : ∀ (now : Int) (rp ar : List Int), 0 ≤ now → now ≤ (l.length : Int) → rp.length = l.length → ar.length = l.length → _ := fun now rp ar => ih (k + 1) (j + 1) now rp ar (by omega) (by omega) (by omega) ha
        have hs := c'.2
        generalize FRO[k] = m at *
        rw [if_pos (show (m.1 == t) = true by rw [eq_t]; exact c1), if_pos (show (!m.2.2.2.2) = true by rw [hs]; rfl)]
        by_cases d1 : now < (l.length : Int)
        · rw [if_pos (show decide (now ≥ (l.length : Int)) = false by rw [df]; omega), if_pos (show decide (now < (l.length : Int)) = true by rw [dt]; exact d1)]
          by_cases d2 : m.2.2.1 = IntKind.i64.wrap (now + 1)
          · rw [if_pos (show (m.2.2.1 != IntKind.i64.wrap (now + 1)) = false by rw [ne_f]; exact d2), if_pos (show (m.2.2.1 == IntKind.i64.wrap (now + 1)) = true by rw [eq_t]; exact d2)]
            simp only [if_pos h0, if_pos (show now < (rp.length : Int) by omega), if_pos (show now < (ar.length : Int) by omega)]
            by_cases d3 : rp.getD now.toNat 0 = 1
            · rw [if_neg (show ¬ (rp.getD now.toNat 0 != 1) = true by rw [ne_t]; exact fun q => q d3), if_pos (show (rp.getD now.toNat 0 == 1) = true by rw [eq_t]; exact d3), wi (x := now + 1) (by omega) (by omega)]
              rcases hfo with e | e
              · rw [e, if_pos (show ((3 : Int) == 3) = true by decide), show IntKind.i64.wrap (3 - 1) = 2 by decide +kernel]
                exact go (now + 1) _ _ (by omega) (by omega) (by rw [List.length_set]; exact h2) (by rw [List.length_set]; exact h3)
              · rw [e, if_neg (show ¬ ((4 : Int) == 3) = true by decide), if_pos (show ((4 : Int) == 4) = true by decide), show IntKind.i64.wrap (4 - 1) = 3 by decide +kernel]
                exact go (now + 1) _ _ (by omega) (by omega) (by rw [List.length_set]; exact h2) (by rw [List.length_set]; exact h3)
            · rw [if_pos (show (rp.getD now.toNat 0 != 1) = true by rw [ne_t]; exact d3), if_neg (show ¬ (rp.getD now.toNat 0 == 1) = true by rw [eq_t]; exact d3)]
              exact go now rp ar h0 h1 h2 h3
          · rw [if_neg (show ¬ (m.2.2.1 != IntKind.i64.wrap (now + 1)) = false by rw [ne_f]; exact d2), if_neg (show ¬ (m.2.2.1 == IntKind.i64.wrap (now + 1)) = true by rw [eq_t]; exact d2)]
            exact go now rp ar h0 h1 h2 h3
        · rw [if_neg (show ¬ decide (now ≥ (l.length : Int)) = false by rw [df]; omega), if_neg (show ¬ decide (now < (l.length : Int)) = true by rw [dt]; exact d1)]
          exact go now rp ar h0 h1 h2 h3
    · rw [List.filter_cons_of_neg c] at ha
      rw [skip22 l th bk last did now first t steps t FRO.length k c8 cntT cntB TO FRO ex rp ar hlt hFl rfl c]
      exact ih (k + 1) j now rp ar (by omega) (by omega) hj ha h0 h1 h2 h3

end Go.Proofs.Ytbaekdcacmoniaa.Pure
