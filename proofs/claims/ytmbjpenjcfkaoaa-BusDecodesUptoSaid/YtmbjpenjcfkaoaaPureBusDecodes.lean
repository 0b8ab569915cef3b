/- BusDecodes: the pure statement, proved. -/
import Derived.Test.YtmbjpenjcfkaoaaEC0
import Derived.Test.YtmbjpenjcfkaoaaPl
import Derived.Test.YtmbjpenjcfkaoaaLemBus
import Derived.Test.YtmbjpenjcfkaoaaLemFrame
namespace Go.Proofs.Ytmbjpenjcfkaoaa.Pure
set_option linter.unusedVariables false
set_option linter.unusedSimpArgs false
open Go Go.RowKit Go.Proofs.Ytmbjpenjcfkaoaa.Pv Go.Proofs.Ytmbjpenjcfkaoaa.Pl Go.Proofs.Ytmbjpenjcfkaoaa.EC

theorem rel_bad {r : Rd} {g : G} (h : Rel r g) : r.2.2.2.2 = g.bad := by
  unfold Rel at h
  split at h <;> subst h <;> rfl
theorem decode_run (s : List Int) (hs : ∀ x, x ∈ s → Byte x) (hl : s.length ≤ 1048576) : ∀ (u k : Nat) (r : Rd), s.length - k = u → k ≤ s.length → Rel r (Gs (s.take k)) → bus_Decode.p4 s s.length k r.2.1 r.2.2.1 r.2.2.2.1 r.2.2.2.2 (Gs (s.take k)).out r.1 = some ((Gs s).out, (Gs s).bad) := by
  intro u
  induction u with
  | zero =>
    intro k r hu hk h
    have e : s.take k = s := List.take_of_length_le (by omega)
    rw [e] at h ⊢
    rw [bus_Decode.p4_eq, if_neg (by rw [dt]; omega), rel_bad h]
  | succ u ih =>
    intro k r hu hk h
    have hlt : k < s.length := by omega
    obtain ⟨q1, q2, q3, q4⟩ := g_small s hs k (by omega)
    obtain ⟨o, r', f1, f2, f3⟩ := feed_all r _ s[k] (hs _ (List.getElem_mem ..)) h q2 (by omega) (fun f hf => (q4 f hf).2)
    rw [← Gs_take s hlt] at f2 f3
    rw [bus_Decode.p4_eq, if_pos (by rw [dt]; omega), if_pos (by omega), if_pos (by omega), toNat_nat, getD_nat _ _ hlt, show bus_Reader_Feed (r.1, r.2.1, r.2.2.1, r.2.2.2.1, r.2.2.2.2) s[k] = some (o, r') from f1, bind_some_, wi_nat (by omega)]
    have n := ih (k + 1) r' (by omega) (by omega) f2
    rcases f3 with ⟨g1, g2⟩ | ⟨g1, g2, _⟩
    · rw [if_pos (show (o, r').1.2 = true from g1), if_pos (by omega), ← g2]
      exact n
    · rw [if_neg (show ¬ (o, r').1.2 = true by rw [show (o, r').1.2 = o.2 from rfl, g1]; decide), ← g2]
      exact n
def Last (t : List Int) (k : Nat) (last : Int) : Prop :=
  match (Gs (t.take k)).fr with
  | none => last = -1
  | some f => 0 ≤ last ∧ last + 1 ≤ k ∧ f = (t.take k).drop (last + 1).toNat
theorem packets_run (t : List Int) (ht : ∀ x, x ∈ t → Byte x) (hl : t.length ≤ 1048576) : ∀ (u k : Nat) (last : Int), t.length - k = u → k ≤ t.length → Last t k last → spyref2_Packets.p4 t (Gs (t.take k)).bad last t t.length k (Gs (t.take k)).out = some ((Gs t).out, (Gs t).bad) := by
  intro u
  induction u with
  | zero =>
    intro k last hu hk h
    have e : t.take k = t := List.take_of_length_le (by omega)
    rw [spyref2_Packets.p4_eq, if_neg (by rw [dt]; omega), e]
  | succ u ih =>
    intro k last hu hk h
    have hlt : k < t.length := by omega
    obtain ⟨q1, q2, q3, q4⟩ := g_small t ht k (by omega)
    have hstep := Gs_take t hlt
    have htake : t.take (k + 1) = t.take k ++ [t[k]] := List.take_succ_eq_append_getElem hlt
    have hlen : (t.take k).length = k := by simp; omega
    rw [spyref2_Packets.p4_eq]
    simp only [if_pos (show decide ((k : Int) < (t.length : Int)) = true by rw [dt]; omega), if_pos (show (0 : Int) ≤ k by omega), if_pos (show (k : Int) < t.length by omega), if_pos (show (k : Int) ≤ t.length by omega), toNat_nat, getD_nat _ _ hlt, wi_nat (show k < 9223372036854775807 by omega)]
    by_cases c : t[k] = 126
    · rw [if_neg (by rw [ne_t]; exact fun q => q c)]
      have hg : Gs (t.take (k + 1)) = gflag (Gs (t.take k)) := by rw [hstep, gstep, if_pos c]
      have hlast : (Gs (t.take (k + 1))).fr = some [] → Last t (k + 1) k := by
        intro e
        unfold Last
        rw [e]
        refine ⟨by omega, by omega, ?_⟩
        rw [List.drop_eq_nil_of_le (by simp; omega)]
      have go : ∀ (out : List Pk) (bad : Int), gflag (Gs (t.take k)) = ⟨out, bad, some []⟩ → spyref2_Packets.p4 t bad k t t.length ((k + 1 : Nat) : Int) out = some ((Gs t).out, (Gs t).bad) := by
        intro out bad e
        have e2 := hg.trans e
        have := ih (k + 1) k (by omega) (by omega) (hlast (by rw [e2]))
        rw [e2] at this
        exact this
      unfold Last at h
      split at h
      · rename_i hf
        subst h
        rw [if_neg (by decide)]
        exact go _ _ (by rw [gflag, hf])
      · rename_i f hf
        obtain ⟨l1, l2, l3⟩ := h
        rw [if_pos (by rw [dt]; omega), wi (x := last + 1) (by omega) (by omega)]
        obtain ⟨k1, k2⟩ := q4 f hf
        cases f with
        | nil =>
          have : k ≤ (last + 1).toNat := by
            have := List.drop_eq_nil_iff.1 l3.symm
            omega
          rw [if_neg (by rw [dt]; omega)]
          exact go _ _ (by rw [gflag, hf])
        | cons y f =>
          have hgt : (last + 1).toNat < k := by
            have := congrArg List.length l3
            simp at this
            omega
          have pv := plain_val (y :: f) (by omega)
          have pk : spyref2_PacketOf (finP (P (y :: f))).1 = some (parseR (finP (P (y :: f))).1) := by
            refine ref_parse _ ?_
            unfold finP
            split
            · intro x hx; cases hx
            · exact (p_ok (y :: f) k2).2
          rw [if_pos (by rw [dt]; omega), if_pos (by omega), if_pos (by omega), ← l3, pv, bind_some_, pk, bind_some_]
          have hr : resF (y :: f) = if (finP (P (y :: f))).2 = true ∧ (parseR (finP (P (y :: f))).1).2 = 0 then some (parseR (finP (P (y :: f))).1).1 else none := rfl
          have hbad : IntKind.i64.wrap ((Gs (t.take k)).bad + 1) = (Gs (t.take k)).bad + 1 := wi (by omega) (by omega)
          rw [hbad]
          by_cases a : (finP (P (y :: f))).2 = true
          · rw [if_pos a]
            by_cases b : (parseR (finP (P (y :: f))).1).2 = 0
            · rw [if_pos (by rw [eq_t]; exact b), if_pos (by omega)]
              rw [if_pos ⟨a, b⟩] at hr
              exact go _ _ (by rw [gflag, hf]; simp only [hr])
            · rw [if_neg (by rw [eq_t]; exact b)]
              rw [if_neg (fun q => b q.2)] at hr
              exact go _ _ (by rw [gflag, hf]; simp only [hr])
          · rw [if_neg a]
            rw [if_neg (fun q => a q.1)] at hr
            exact go _ _ (by rw [gflag, hf]; simp only [hr])
    · rw [if_pos (by rw [ne_t]; exact c)]
      have hg : Gs (t.take (k + 1)) = ⟨(Gs (t.take k)).out, (Gs (t.take k)).bad, (Gs (t.take k)).fr.map (· ++ [t[k]])⟩ := by rw [hstep, gstep, if_neg c]
      have := ih (k + 1) last (by omega) (by omega) (by
        unfold Last at h ⊢
        rw [hg]
        simp only
        cases hf : (Gs (t.take k)).fr with
        | none =>
          rw [hf] at h
          exact h
        | some f =>
          rw [hf] at h
          obtain ⟨l1, l2, l3⟩ := h
          refine ⟨l1, by omega, ?_⟩
          rw [htake, List.drop_append_of_le_length (by omega), ← l3])
      rw [hg] at this
      exact this
theorem packets_val (t : List Int) (ht : ∀ x, x ∈ t → Byte x) (hl : t.length ≤ 1048576) : spyref2_Packets t = some ((Gs t).out, (Gs t).bad) := by
  have := packets_run t ht hl _ 0 (-1) rfl (by omega) rfl
  rw [spyref2_Packets_eq]
  exact this
theorem same_packet (p : Pk) : spyref2_SamePacket p p = some true := by
  rw [spyref2_SamePacket_eq, if_pos (by rw [eq_t]), if_pos (by rw [eq_t]), if_pos (by rw [eq_t]), strs]
theorem same_packets (l : List Pk) (hl : l.length ≤ 1048576) : spyref2_SamePackets l l = some true := by
  have main : ∀ (u k : Nat), l.length - k = u → k ≤ l.length → spyref2_SamePackets.p4 l l l.length k = some true := by
    intro u
    induction u with
    | zero =>
      intro k hu hk
      rw [spyref2_SamePackets.p4_eq, if_neg (by rw [dt]; omega)]
    | succ u ih =>
      intro k hu hk
      rw [spyref2_SamePackets.p4_eq]
      simp only [if_pos (show decide ((k : Int) < (l.length : Int)) = true by rw [dt]; omega), if_pos (show (0 : Int) ≤ k by omega), if_pos (show (k : Int) < l.length by omega), wi_nat (show k < 9223372036854775807 by omega), same_packet, bind_some_]
      rw [if_neg (by decide)]
      exact ih (k + 1) (by omega) (by omega)
  rw [spyref2_SamePackets_eq, if_neg (by simp)]
  exact main _ 0 rfl (by omega)
theorem p9_run (s : List Int) (hs : ∀ x, x ∈ s → Byte x) (hl : s.length ≤ 1048576) : ∀ (u k : Nat) (r : Rd), s.length - k = u → k ≤ s.length → Rel r (Gs (s.take k)) → spylaw2_BusDecodes.p9 s s s.length k r.2.1 r.2.2.1 r.2.2.2.1 r.2.2.2.2 r.1 = some true := by
  intro u
  induction u with
  | zero =>
    intro k r hu hk h
    rw [spylaw2_BusDecodes.p9_eq, if_neg (by rw [dt]; omega)]
  | succ u ih =>
    intro k r hu hk h
    have hlt : k < s.length := by omega
    obtain ⟨q1, q2, q3, q4⟩ := g_small s hs k (by omega)
    obtain ⟨q5, q6, q7, _⟩ := g_small s hs (k + 1) (by omega)
    obtain ⟨o, r', f1, f2, f3⟩ := feed_all r _ s[k] (hs _ (List.getElem_mem ..)) h q2 (by omega) (fun f hf => (q4 f hf).2)
    rw [← Gs_take s hlt] at f2 f3
    have n := ih (k + 1) r' (by omega) (by omega) f2
    have v1 := packets_val (s.take k) (fun x hx => hs x (List.mem_of_mem_take hx)) (by simp; omega)
    have v2 := packets_val (s.take (k + 1)) (fun x hx => hs x (List.mem_of_mem_take hx)) (by simp; omega)
    have hb := rel_bad f2
    rw [spylaw2_BusDecodes.p9_eq, if_pos (by rw [dt]; omega), if_pos (by omega), if_pos (by omega), toNat_nat, getD_nat _ _ hlt, show bus_Reader_Feed (r.1, r.2.1, r.2.2.1, r.2.2.2.1, r.2.2.2.2) s[k] = some (o, r') from f1, bind_some_, wi_nat (by omega), if_pos (by omega), if_pos (by omega), v1, bind_some_, if_pos (by omega), if_pos (by omega), toNat_nat, v2, bind_some_]
    simp only
    have next : (if (decide ((k : Int) > 200)) = true then (some true) else (spylaw2_BusDecodes.p9 s s s.length ((k + 1 : Nat) : Int) r'.2.1 r'.2.2.1 r'.2.2.2.1 r'.2.2.2.2 r'.1)) = some true := ite_eq (fun _ => rfl) (fun _ => n)
    have hnb : ¬ (r'.2.2.2.2 != (Gs (s.take (k + 1))).bad) = true := by rw [ne_t]; exact fun q => q hb
    rcases f3 with ⟨g1, g2⟩ | ⟨g1, g2, g3⟩
    · have hlen : (Gs (s.take (k + 1))).out.length = (Gs (s.take k)).out.length + 1 := by rw [g2]; simp
      have hw : IntKind.i64.wrap (((Gs (s.take (k + 1))).out.length : Int) - 1) = ((Gs (s.take k)).out.length : Int) := by rw [wi (by omega) (by omega)]; omega
      have hd : decide (((Gs (s.take (k + 1))).out.length : Int) > ((Gs (s.take k)).out.length : Int)) = true := by rw [dt]; omega
      have hget : (Gs (s.take (k + 1))).out.getD (Gs (s.take k)).out.length (0, 0, 0, []) = o.1 := by rw [g2]; simp
      rw [hd, g1, if_pos (by decide), if_neg hnb, if_pos rfl, hw, if_pos (by omega), if_pos (by omega), toNat_nat, hget, same_packet, bind_some_, if_pos (by decide), if_neg (by decide)]
      exact next
    · have hd : decide (((Gs (s.take (k + 1))).out.length : Int) > ((Gs (s.take k)).out.length : Int)) = false := by rw [df, g2]; omega
      rw [hd, g1, if_pos (by decide), if_neg hnb, if_neg (by decide), if_pos (by decide), g3, same_packet, bind_some_, if_neg (by decide)]
      exact next
theorem buses : spylaw2_buses = some true := callL_some.2 ⟨200, by kernel_rfl⟩
theorem BusDecodes : ∀ (x0 : List Int), goodT Try.prog (.list false 5 (.int .u8)) x0 → bulkT (.list false 5 (.int .u8)) x0 ≤ 1048576 → spylaw2_BusDecodes x0 = some true := by
  intro s hs hb
  have hs' := (good_bytes hs).2
  have hl : s.length ≤ 1048576 := by
    have h1 := sum_le s
    rw [bulkT] at hb
    have h2 : s.length ≤ (List.map (bulkT (.int .u8)) s).sum := h1
    omega
  rw [spylaw2_BusDecodes_eq, buses, bind_some_, if_neg (by decide), bus_Decode_eq]
  have d := decode_run s hs' hl _ 0 ([], false, false, false, 0) rfl (by omega) rfl
  have p := p9_run s hs' hl _ 0 ([], false, false, false, 0) rfl (by omega) rfl
  rw [show bus_Decode.p4 s (s.length : Int) 0 false false false 0 [] [] = some ((Gs s).out, (Gs s).bad) from d, bind_some_, packets_val s hs' hl, bind_some_, if_pos (by simp)]
  have hsm := g_small s hs' s.length (by omega)
  rw [List.take_length] at hsm
  rw [same_packets (Gs s).out (by have := hsm.1; omega), bind_some_, if_neg (by decide)]
  exact p

end Go.Proofs.Ytmbjpenjcfkaoaa.Pure
