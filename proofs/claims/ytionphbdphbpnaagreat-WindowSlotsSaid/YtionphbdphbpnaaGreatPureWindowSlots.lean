/- WindowSlots: the pure statement, proved. -/
import Derived.Test.YtionphbdphbpnaaGreatEA0
import Derived.Test.YtionphbdphbpnaaGreatEA1
import Derived.Test.YtionphbdphbpnaaGreatEA2
import Derived.Test.YtionphbdphbpnaaGreatEA3
import Derived.Test.YtionphbdphbpnaaGreatEA4
import Derived.Test.YtionphbdphbpnaaGreatPl
import Derived.Test.YtionphbdphbpnaaGreatLemNum
import Derived.Test.YtionphbdphbpnaaGreatLemDiv
import Derived.Test.YtionphbdphbpnaaGreatLemNight
import Derived.Test.YtionphbdphbpnaaGreatLemBound
import Derived.Test.YtionphbdphbpnaaGreatLemHeight
import Derived.Test.YtionphbdphbpnaaGreatLemSame
import Derived.Test.YtionphbdphbpnaaGreatLemWin
namespace Go.Proofs.YtionphbdphbpnaaGreat.Pure
set_option linter.unusedVariables false
set_option linter.unusedSimpArgs false
open Go Go.RowKit Go.Proofs.YtionphbdphbpnaaGreat.Pv Go.Proofs.YtionphbdphbpnaaGreat.Pl Go.Proofs.YtionphbdphbpnaaGreat.EA

theorem closed_list (n : Night) (r : Req) (hc : (n.2.2.2.2.2.2.2.2.length : Int) = n.2.2.2.2.1) (hs : n.2.2.2.2.1 ≤ 64) : ∃ l : List Int, spyref2_AllClosed n r = some l ∧ (l.length : Int) = n.2.2.2.2.1 ∧ ∀ k : Nat, (h : k < l.length) → window_why n r k = some l[k] := by
  have h0 : 0 ≤ n.2.2.2.2.1 := by omega
  have main : ∀ (u : Nat) (k : Nat) (acc : List Int), n.2.2.2.2.1.toNat - k = u → k ≤ n.2.2.2.2.1.toNat → acc.length = k → (∀ j : Nat, (h : j < acc.length) → window_why n r j = some acc[j]) →
      ∃ l : List Int, spyref2_AllClosed.p3 (k : Int) n r acc = some l ∧ (l.length : Int) = n.2.2.2.2.1 ∧ ∀ j : Nat, (h : j < l.length) → window_why n r j = some l[j] := by
    intro u
    induction u with
    | zero =>
      intro k acc hu hk hl hw
      rw [spyref2_AllClosed.p3_eq, if_neg (by rw [dt]; omega)]
      exact ⟨acc, rfl, by omega, hw⟩
    | succ u ih =>
      intro k acc hu hk hl hw
      obtain ⟨c, c1, c2, _⟩ := closed_same n r k (by omega) (by omega)
      rw [spyref2_AllClosed.p3_eq, if_pos (by rw [dt]; omega), c2, bind_some_, if_pos (by omega), wi_nat (by omega)]
      refine ih (k + 1) (acc ++ [c]) (by omega) (by omega) (by simp [hl]) fun j hj => ?_
      by_cases e : j < acc.length
      · rw [List.getElem_append_left e]
        exact hw j e
      · have : j = k := by simp at hj; omega
        subst this
        rw [List.getElem_append_right (by omega), c1]
        simp [hl]
  rw [spyref2_AllClosed_eq]
  exact main _ 0 [] rfl (by omega) rfl (fun j h => by simp at h)
theorem same_ints (l : List Int) (hl : l.length ≤ 64) : slices_Equal_int_int l l = some true := by
  rw [slices_Equal_int_int_eq, if_neg (by simp)]
  have := equal_run 0 (fun x y => x == y) (fun x y => by simp) l l rfl (by omega) (fun i => slices_Equal_int_int.p4 l l (l.length : Int) i) (fun i => slices_Equal_int_int.p4_eq ..)
  simpa using this
theorem same_spans (l : List (Int × Int)) (hl : l.length ≤ 64) : slices_Equal_window_Span l l = some true := by
  rw [slices_Equal_window_Span_eq, if_neg (by simp)]
  have := equal_run (0, 0) (fun x y => (x.1 == y.1) && (x.2 == y.2)) (fun x y => by simp [Prod.ext_iff]) l l rfl (by omega) (fun i => slices_Equal_window_Span.p4 l l (l.length : Int) i) (fun i => slices_Equal_window_Span.p4_eq ..)
  simpa using this
/-- A list that is filled place by place. -/
theorem set_fill {α : Type} {acc l : List α} {k : Nat} (hk : k < l.length) (hl : acc.length = l.length) (h : ∀ j, j < k → acc[j]? = l[j]?) : ∀ j, j < k + 1 → (acc.set k l[k])[j]? = l[j]? := by
  intro j hj
  rw [List.getElem?_set]
  by_cases e : k = j
  · subst e
    rw [if_pos rfl, if_pos (by omega), List.getElem?_eq_getElem hk]
  · rw [if_neg e]
    exact h j (by omega)
theorem fill_end {α : Type} {acc l : List α} (hl : acc.length = l.length) (h : ∀ j, j < l.length → acc[j]? = l[j]?) : acc = l := by
  apply List.ext_getElem?
  intro j
  by_cases e : j < l.length
  · exact h j e
  · rw [List.getElem?_eq_none (by omega), List.getElem?_eq_none (by omega)]
theorem slots_p6 (n : Night) (r : Req) (l : List Int) (hl : l.length ≤ 64) (hw : ∀ k : Nat, (h : k < l.length) → window_why n r k = some l[k]) : ∀ (u k : Nat) (acc : List Int), l.length - k = u → k ≤ l.length → acc.length = l.length → (∀ j, j < k → acc[j]? = l[j]?) → window_Slots.p6 (l.length : Int) k n r acc = some (l, 0) := by
  intro u
  induction u with
  | zero =>
    intro k acc hu hk ha hj
    rw [window_Slots.p6_eq, if_neg (by rw [dt]; omega), fill_end ha (fun j h => hj j (by omega))]
  | succ u ih =>
    intro k acc hu hk ha hj
    have hlt : k < l.length := by omega
    rw [window_Slots.p6_eq, if_pos (by rw [dt]; omega), hw k hlt, bind_some_, if_pos (by omega), if_pos (by omega), wi_nat (by omega), toNat_nat]
    exact ih (k + 1) _ (by omega) (by omega) (by simp [ha]) (set_fill hlt ha hj)
/-- The darkness of all slots. -/
theorem dark_all (n : Night) : ∀ N : Nat, ∃ l : List Bool, l.length = N ∧ ∀ k : Nat, (h : k < l.length) → window_dark n k = some l[k] := by
  intro N
  induction N with
  | zero => exact ⟨[], rfl, fun k h => absurd h (by simp)⟩
  | succ N ih =>
    obtain ⟨l, h1, h2⟩ := ih
    obtain ⟨d1, d, d2⟩ := dark_same n N
    refine ⟨l ++ [d], by simp [h1], fun k h => ?_⟩
    by_cases e : k < l.length
    · rw [List.getElem_append_left e]
      exact h2 k e
    · have : k = N := by simp at h; omega
      subst this
      rw [List.getElem_append_right (by omega), d1, d2]
      simp [h1]
theorem dark_p5 (n : Night) (l : List Bool) (hl : l.length ≤ 64) (hw : ∀ k : Nat, (h : k < l.length) → window_dark n k = some l[k]) : ∀ (u k : Nat) (acc : List Bool), l.length - k = u → k ≤ l.length → acc.length = l.length → (∀ j, j < k → acc[j]? = l[j]?) → window_Dark.p5 (l.length : Int) k n acc = some l := by
  intro u
  induction u with
  | zero =>
    intro k acc hu hk ha hj
    rw [window_Dark.p5_eq, if_neg (by rw [dt]; omega), fill_end ha (fun j h => hj j (by omega))]
  | succ u ih =>
    intro k acc hu hk ha hj
    have hlt : k < l.length := by omega
    rw [window_Dark.p5_eq, if_pos (by rw [dt]; omega), hw k hlt, bind_some_, if_pos (by omega), if_pos (by omega), wi_nat (by omega), toNat_nat]
    exact ih (k + 1) _ (by omega) (by omega) (by simp [ha]) (set_fill hlt ha hj)
theorem dark_p10 (n : Night) (r : Req) (l : List Bool) (hl : l.length ≤ 64) (hw : ∀ k : Nat, (h : k < l.length) → window_dark n k = some l[k]) : ∀ (u k : Nat), l.length - k = u → k ≤ l.length → spylaw2_WindowSlots.p10 l l.length k n r = spylaw2_WindowSlots.p10 l l.length l.length n r := by
  intro u
  induction u with
  | zero =>
    intro k hu hk
    rw [show k = l.length by omega]
  | succ u ih =>
    intro k hu hk
    have hlt : k < l.length := by omega
    obtain ⟨d1, _⟩ := dark_same n k
    rw [spylaw2_WindowSlots.p10_eq l l.length k, if_pos (by rw [dt]; omega), if_pos (by omega), if_pos (by omega), ← d1, hw k hlt, bind_some_, toNat_nat, getD_nat _ _ hlt, if_neg (by simp), wi_nat (by omega)]
    exact ih (k + 1) (by omega) (by omega)
/-- Spans, as the program and the law gather them. -/
theorem spans_same (s : List (Int × Int)) (t : List Int) (ht : t.length ≤ 64) : ∀ (u k : Nat) (b : List (Int × Int)), t.length - k = u → k ≤ t.length → b.length ≤ k → ∃ b' : List (Int × Int), b'.length ≤ 64 ∧ window_Of.p6 t t.length k b = some (b', 0) ∧ spylaw2_WindowSlots.p24 s t t.length k b = slices_Equal_window_Span s b' := by
  intro u
  induction u with
  | zero =>
    intro k b hu hk hb
    rw [window_Of.p6_eq, spylaw2_WindowSlots.p24_eq, if_neg (by rw [dt]; omega), if_neg (by rw [dt]; omega), bind_id]
    exact ⟨b, by omega, rfl, rfl⟩
  | succ u ih =>
    intro k b hu hk hb
    have a : decide ((k : Int) < (t.length : Int)) = true := by rw [dt]; omega
    have hw : IntKind.i64.wrap ((b.length : Int) - 1) = (b.length : Int) - 1 := wi (by omega) (by omega)
    have app : ∃ b' : List (Int × Int), b'.length ≤ 64 ∧ (if (b.length + 1) * 16 ≤ 140737488355328 then (window_Of.p6 t t.length ((k + 1 : Nat) : Int) (b ++ [((k : Int), ((k + 1 : Nat) : Int))])) else none) = some (b', 0) ∧ (if (b.length + 1) * 16 ≤ 140737488355328 then (spylaw2_WindowSlots.p24 s t t.length ((k + 1 : Nat) : Int) (b ++ [((k : Int), ((k + 1 : Nat) : Int))])) else none) = slices_Equal_window_Span s b' := by
      rw [if_pos (by omega), if_pos (by omega)]
      exact ih (k + 1) _ (by omega) (by omega) (by simp; omega)
    rw [window_Of.p6_eq, spylaw2_WindowSlots.p24_eq]
    simp only [if_pos a, if_pos (show (0 : Int) ≤ k by omega), if_pos (show (k : Int) < t.length by omega), wi_nat (show k < 9223372036854775807 by omega), hw]
    by_cases c : ((t.getD (k : Int).toNat 0) != 0) = true
    · rw [if_pos c, if_pos c]
      exact ih (k + 1) _ (by omega) (by omega) (by omega)
    · rw [if_neg c, if_neg c]
      by_cases d : 0 < b.length
      · simp only [if_pos (show decide ((b.length : Int) > 0) = true by rw [dt]; omega), if_pos (show decide ((b.length : Int) - 1 ≥ 0) = true by rw [dt]; omega), if_pos (show 0 ≤ (b.length : Int) - 1 by omega), if_pos (show (b.length : Int) - 1 < b.length by omega)]
        by_cases f : ((b.getD ((b.length : Int) - 1).toNat (0, 0)).2 == (k : Int)) = true
        · rw [if_pos f, if_pos f]
          rw [eq_t] at f
          rw [f, wi_nat (show k < 9223372036854775807 by omega)]
          exact ih (k + 1) _ (by omega) (by omega) (by simp; omega)
        · rw [if_neg f, if_neg f]
          exact app
      · rw [if_neg (show ¬ decide ((b.length : Int) > 0) = true by rw [dt]; omega), if_neg (show ¬ decide ((b.length : Int) - 1 ≥ 0) = true by rw [dt]; omega)]
        exact app
/-- The law's last part, whatever the night. -/
theorem slots_end (n : Night) (r : Req) : ((window_Slots n r).bind fun r1 => (window_Of n r).bind fun r2 => (spyref2_NightRequestFault n r).bind fun r4 => if (r4 != 0) = true then (if ((r1.1.length : Int) == 0) = true then (if ((r2.1.length : Int) == 0) = true then (if (r1.2 == r4) = true then (some (r2.2 == r4)) else (some false)) else (some false)) else (some false)) else (if (r1.2 != 0) = false then (if (r2.2 != 0) = false then ((spyref2_AllClosed n r).bind fun r5 => (slices_Equal_int_int r1.1 r5).bind fun r6 => if (!r6) = true then (some false) else ((spyref2_AllClosed n r).bind fun r7 => spylaw2_WindowSlots.p24 r2.1 r7 (r7.length : Int) 0 [])) else (some false)) else (some false))) = some true := by
  obtain ⟨e, h1, h2, h3⟩ := both_eq n r
  rw [window_Of_eq, window_Slots_eq, h1, h2, bind_some_]
  by_cases he : e = 0
  · subst he
    obtain ⟨ok, rq⟩ := h3 rfl
    have hs := ok.slots
    obtain ⟨l, l1, l2, l3⟩ := closed_list n r ok.cloud hs.2
    have q := slots_p6 n r l (by omega) l3 _ 0 (List.replicate n.2.2.2.2.1.toNat (0 : Int)) rfl (by omega) (by simp; omega) (fun j h => absurd h (by omega))
    rw [if_neg (by decide), if_pos rfl, if_pos (by omega), if_pos (by omega)]
    have el : ((List.replicate n.2.2.2.2.1.toNat (0 : Int)).length : Int) = (l.length : Int) := by simp; omega
    rw [el]
    obtain ⟨b, b1, b2, b3⟩ := spans_same ([] : List (Int × Int)) l (by omega) _ 0 [] rfl (by omega) (by simp)
    rw [show ((0 : Nat) : Int) = 0 from rfl] at q b2
    rw [q]
    simp only [bind_some_]
    rw [if_neg (by decide), b2, bind_some_, if_neg (by decide)]
    obtain ⟨b', c1, c2, c3⟩ := spans_same b l (by omega) _ 0 [] rfl (by omega) (by simp)
    rw [show ((0 : Nat) : Int) = 0 from rfl] at c2 c3
    rw [b2] at c2
    cases c2
    rw [if_pos (by rfl), if_pos (by rfl), l1, bind_some_, same_ints l (by omega), bind_some_, if_neg (by decide), bind_some_, c3, same_spans b b1]
  · rw [if_pos (by rw [ne_t]; exact he)]
    simp only [bind_some_]
    rw [if_pos (by rw [ne_t]; exact he), bind_some_, if_pos (by rw [ne_t]; exact he)]
    simp
theorem WindowSlots : ∀ (x0 : (Int × Int) × (Int × Int × Int × Int) × Int × Int × Int × (Int × Int × Int) × (Int × Int × Int) × Int × List Int) (x1 : Int × Int × (Int × Int × Int) × Int × Int × Int × Int × Int × Int × Int × Int), goodT Tryz.prog (.prod (.prod (.int .i64) (.int .i64)) (.prod (.prod (.int .i64) (.prod (.int .i64) (.prod (.int .i64) (.int .i64)))) (.prod (.int .i64) (.prod (.int .i64) (.prod (.int .i64) (.prod (.prod (.int .i64) (.prod (.int .i64) (.int .i64))) (.prod (.prod (.int .i64) (.prod (.int .i64) (.int .i64))) (.prod (.int .i64) (.list false 3 (.int .i64)))))))))) x0 → goodT Tryz.prog (.prod (.int .i64) (.prod (.int .i64) (.prod (.prod (.int .i64) (.prod (.int .i64) (.int .i64))) (.prod (.int .i64) (.prod (.int .i64) (.prod (.int .i64) (.prod (.int .i64) (.prod (.int .i64) (.prod (.int .i64) (.prod (.int .i64) (.int .i64))))))))))) x1 → spylaw2_WindowSlots x0 x1 = some true := by
  intro n r hn hr
  obtain ⟨h1, e, h2⟩ := night_eq n
  rw [spylaw2_WindowSlots_eq, windows_ok, bind_some_, if_neg (by decide), window_Dark_eq, h1, h2, bind_some_]
  by_cases he : e = 0
  · subst he
    have ok := night_ok h2
    have hs := ok.slots
    obtain ⟨l, l1, l2⟩ := dark_all n n.2.2.2.2.1.toNat
    have q := dark_p5 n l (by omega) l2 _ 0 (List.replicate n.2.2.2.2.1.toNat false) rfl (by omega) (by simp; omega) (fun j h => absurd h (by omega))
    have el : ((List.replicate n.2.2.2.2.1.toNat false).length : Int) = (l.length : Int) := by simp; omega
    have t := dark_p10 n r l (by omega) l2 _ 0 rfl (by omega)
    rw [show ((0 : Nat) : Int) = 0 from rfl] at q t
    rw [if_neg (by decide), if_pos rfl, if_pos (by omega), if_pos (by omega), el, q, bind_some_, bind_some_, if_neg (by decide), if_neg (by rw [ne_t]; omega), t, spylaw2_WindowSlots.p10_eq, if_neg (by rw [dt]; omega)]
    exact slots_end n r
  · rw [if_pos (by rw [ne_t]; exact he), bind_some_, bind_some_, if_pos (by rw [ne_t]; exact he), if_neg (by decide)]
    exact slots_end n r

end Go.Proofs.YtionphbdphbpnaaGreat.Pure
