/- WindowFits: the pure statement, proved. -/
import Derived.Test.YtionphbdphbpnaaGreatEA0
import Derived.Test.YtionphbdphbpnaaGreatEA1
import Derived.Test.YtionphbdphbpnaaGreatEA2
import Derived.Test.YtionphbdphbpnaaGreatEA3
import Derived.Test.YtionphbdphbpnaaGreatEA4
import Derived.Test.YtionphbdphbpnaaGreatPl
import Derived.Test.YtionphbdphbpnaaGreatLemNum
import Derived.Test.YtionphbdphbpnaaGreatLemDiv
import Derived.Test.YtionphbdphbpnaaGreatLemNight
import Derived.Test.YtionphbdphbpnaaGreatLemBound
import Derived.Test.YtionphbdphbpnaaGreatLemHeight
import Derived.Test.YtionphbdphbpnaaGreatLemSame
import Derived.Test.YtionphbdphbpnaaGreatLemWin
namespace Go.Proofs.YtionphbdphbpnaaGreat.Pure
set_option linter.unusedVariables false
set_option linter.unusedSimpArgs false
open Go Go.RowKit Go.Proofs.YtionphbdphbpnaaGreat.Pv Go.Proofs.YtionphbdphbpnaaGreat.Pl Go.Proofs.YtionphbdphbpnaaGreat.EA

theorem closed_list (n : Night) (r : Req) (hc : (n.2.2.2.2.2.2.2.2.length : Int) = n.2.2.2.2.1) (hs : n.2.2.2.2.1 ≤ 64) : ∃ l : List Int, spyref2_AllClosed n r = some l ∧ (l.length : Int) = n.2.2.2.2.1 ∧ ∀ k : Nat, (h : k < l.length) → window_why n r k = some l[k] := by
  have h0 : 0 ≤ n.2.2.2.2.1 := by omega
  have main : ∀ (u : Nat) (k : Nat) (acc : List Int), n.2.2.2.2.1.toNat - k = u → k ≤ n.2.2.2.2.1.toNat → acc.length = k → (∀ j : Nat, (h : j < acc.length) → window_why n r j = some acc[j]) →
      ∃ l : List Int, spyref2_AllClosed.p3 (k : Int) n r acc = some l ∧ (l.length : Int) = n.2.2.2.2.1 ∧ ∀ j : Nat, (h : j < l.length) → window_why n r j = some l[j] := by
    intro u
    induction u with
    | zero =>
      intro k acc hu hk hl hw
      rw [spyref2_AllClosed.p3_eq, if_neg (by rw [dt]; omega)]
      exact ⟨acc, rfl, by omega, hw⟩
    | succ u ih =>
      intro k acc hu hk hl hw
      obtain ⟨c, c1, c2, _⟩ := closed_same n r k (by omega) (by omega)
      rw [spyref2_AllClosed.p3_eq, if_pos (by rw [dt]; omega), c2, bind_some_, if_pos (by omega), wi_nat (by omega)]
      refine ih (k + 1) (acc ++ [c]) (by omega) (by omega) (by simp [hl]) fun j hj => ?_
      by_cases e : j < acc.length
      · rw [List.getElem_append_left e]
        exact hw j e
      · have : j = k := by simp at hj; omega
        subst this
        rw [List.getElem_append_right (by omega), c1]
        simp [hl]
  rw [spyref2_AllClosed_eq]
  exact main _ 0 [] rfl (by omega) rfl (fun j h => by simp at h)
/-- All of a list's part are 0. -/
def allZero : List Int → Bool
  | [] => true
  | x :: l => decide (x = 0) && allZero l
theorem p16_ok (ok : Bool) (l : List Int) (hl : l.length < 1000) : ∀ (u i : Nat) (w : Bool), l.length - i = u → i ≤ l.length → ok = (w && allZero (l.drop i)) → spylaw2_WindowFits.p16 ok 0 w l l.length i = some true := by
  intro u
  induction u with
  | zero =>
    intro i w hu hi h
    rw [spylaw2_WindowFits.p16_eq, if_neg (by rw [dt]; omega), if_pos (by decide)]
    rw [List.drop_eq_nil_of_le (by omega), allZero, Bool.and_true] at h
    rw [h]
    simp
  | succ u ih =>
    intro i w hu hi h
    have hlt : i < l.length := by omega
    rw [List.drop_eq_getElem_cons hlt, allZero] at h
    rw [spylaw2_WindowFits.p16_eq, if_pos (by rw [dt]; omega), if_pos (by omega), if_pos (by omega), toNat_nat, getD_nat _ _ hlt, wi_nat (by omega)]
    cases w with
    | true =>
      rw [if_pos rfl]
      exact ih (i + 1) _ (by omega) (by omega) (by rw [h]; simp only [Bool.true_and]; congr 1)
    | false =>
      rw [if_neg (by decide)]
      exact ih (i + 1) _ (by omega) (by omega) (by rw [h]; rfl)
theorem fits_p7 (n : Night) (r : Req) (l : List Int) (s len : Nat) (hl : l.length ≤ 64) (hlen : r.2.2.2.1 = len) (hf : s + len ≤ l.length) (hw : ∀ k : Nat, (h : k < l.length) → window_why n r k = some l[k]) : ∀ (u k : Nat), s + len - k = u → s ≤ k → k ≤ s + len → window_Fits.p7 (s : Int) (k : Int) n r = some (allZero ((l.take (s + len)).drop k), 0) := by
  intro u
  induction u with
  | zero =>
    intro k hu h0 h1
    rw [window_Fits.p7_eq, hlen, wi (x := (s : Int) + (len : Int)) (by omega) (by omega), if_neg (by rw [dt]; omega), List.drop_eq_nil_of_le (by simp; omega)]
    rfl
  | succ u ih =>
    intro k hu h0 h1
    have hk : k < l.length := by omega
    have hk2 : k < (l.take (s + len)).length := by simp; omega
    rw [window_Fits.p7_eq, hlen, wi (x := (s : Int) + (len : Int)) (by omega) (by omega), if_pos (by rw [dt]; omega), hw k hk, bind_some_, wi_nat (by omega), List.drop_eq_getElem_cons hk2, allZero, List.getElem_take]
    by_cases h : l[k] = 0
    · rw [if_neg (by rw [ne_t]; exact fun q => q h), ih (k + 1) (by omega) (by omega) (by omega), h]
      rfl
    · rw [if_pos (by rw [ne_t]; exact h), decide_eq_false h]
      rfl
/-- Fits, and what the law makes of it. -/
theorem fits_all (n : Night) (r : Req) (fr : Int) (hfr : -9223372036854775808 ≤ fr ∧ fr ≤ 9223372036854775807) : ∃ p e, window_Fits n r fr = some p ∧ spyref2_NightRequestFault n r = some e ∧ (e ≠ 0 → p = (false, e)) ∧ (e = 0 → p.2 = 0 ∧ (n.2.2.2.2.1 - r.2.2.2.1 = IntKind.i64.wrap (n.2.2.2.2.1 - r.2.2.2.1)) ∧ (¬ (0 ≤ fr ∧ fr ≤ n.2.2.2.2.1 - r.2.2.2.1) → p.1 = false) ∧ (0 ≤ fr ∧ fr ≤ n.2.2.2.2.1 - r.2.2.2.1 → ∃ l : List Int, spyref2_AllClosed n r = some l ∧ (l.length : Int) = n.2.2.2.2.1 ∧ n.2.2.2.2.1 ≤ 64 ∧ IntKind.i64.wrap (fr + r.2.2.2.1) = fr + r.2.2.2.1 ∧ 1 ≤ r.2.2.2.1 ∧ r.2.2.2.1 ≤ 8 ∧ p.1 = allZero ((l.take (fr + r.2.2.2.1).toNat).drop fr.toNat))) := by
  obtain ⟨e, h1, h2, h3⟩ := both_eq n r
  rw [window_Fits_eq, h1, bind_some_]
  by_cases he : e = 0
  · subst he
    obtain ⟨ok, rq⟩ := h3 rfl
    have rl := request_len rq
    have hs := ok.slots
    have hc := ok.cloud
    have hwr : IntKind.i64.wrap (n.2.2.2.2.1 - r.2.2.2.1) = n.2.2.2.2.1 - r.2.2.2.1 := wi (by omega) (by omega)
    rw [if_neg (by decide), hwr]
    by_cases c1 : fr < 0
    · rw [if_neg (by rw [df]; exact fun q => q c1)]
      exact ⟨_, 0, rfl, h2, fun q => absurd rfl q, fun _ => ⟨rfl, rfl, fun _ => rfl, fun q => by omega⟩⟩
    · by_cases c2 : fr > n.2.2.2.2.1 - r.2.2.2.1
      · rw [if_pos (by rw [df]; exact c1), if_pos (by rw [dt]; exact c2)]
        exact ⟨_, 0, rfl, h2, fun q => absurd rfl q, fun _ => ⟨rfl, rfl, fun _ => rfl, fun q => by omega⟩⟩
      · rw [if_pos (by rw [df]; exact c1), if_neg (by rw [dt]; exact c2)]
        obtain ⟨l, l1, l2, l3⟩ := closed_list n r hc hs.2
        have p := fits_p7 n r l fr.toNat r.2.2.2.1.toNat (by omega) (by omega) (by omega) l3 _ fr.toNat rfl (by omega) (by omega)
        rw [Int.toNat_of_nonneg (by omega)] at p
        have e2 : fr.toNat + r.2.2.2.1.toNat = (fr + r.2.2.2.1).toNat := by omega
        rw [e2] at p
        exact ⟨_, 0, p, h2, fun q => absurd rfl q, fun _ => ⟨rfl, rfl, fun q => by omega, fun _ => ⟨l, l1, l2, hs.2, wi (by omega) (by omega), rl.1, rl.2.1, rfl⟩⟩⟩
  · rw [if_pos (by rw [ne_t]; exact he)]
    exact ⟨_, e, rfl, h2, fun _ => rfl, fun q => absurd q he⟩
/-- The law's last part. -/
theorem fits_end (n : Night) (r : Req) (fr : Int) (hfr : -9223372036854775808 ≤ fr ∧ fr ≤ 9223372036854775807) : ((window_Fits n r fr).bind fun r5 => (spyref2_NightRequestFault n r).bind fun r6 => if (r6 != 0) = true then (if (!r5.1) = true then (some (r5.2 == r6)) else (some false)) else ((spyref2_In fr 0 (IntKind.i64.wrap (n.2.2.2.2.1 - r.2.2.2.1))).bind fun r7 => if r7 = true then ((spyref2_AllClosed n r).bind fun r8 => if 0 ≤ (IntKind.i64.wrap (fr + r.2.2.2.1)) then (if (IntKind.i64.wrap (fr + r.2.2.2.1)) ≤ (r8.length : Int) then (if 0 ≤ fr then (if fr ≤ (IntKind.i64.wrap (fr + r.2.2.2.1)) then (spylaw2_WindowFits.p16 r5.1 r5.2 r7 ((r8.take (IntKind.i64.wrap (fr + r.2.2.2.1)).toNat).drop fr.toNat) (((r8.take (IntKind.i64.wrap (fr + r.2.2.2.1)).toNat).drop fr.toNat).length : Int) 0) else (none)) else (none)) else (none)) else (none)) else (if (r5.2 == 0) = true then (some (r5.1 == r7)) else (some false)))) = some true := by
  obtain ⟨p, e, h1, h2, h3, h4⟩ := fits_all n r fr hfr
  rw [h1, h2, bind_some_, bind_some_]
  by_cases he : e = 0
  · obtain ⟨a1, a2, a3, a4⟩ := h4 he
    rw [if_neg (by rw [ne_t]; exact fun q => q he), ← a2, in_val, bind_some_]
    by_cases c : 0 ≤ fr ∧ fr ≤ n.2.2.2.2.1 - r.2.2.2.1
    · obtain ⟨l, l1, l2, l3, l4, l5, l6, l7⟩ := a4 c
      rw [if_pos (by rw [dt]; exact c), l1, bind_some_, l4, if_pos (by omega), if_pos (by omega), if_pos (by omega), if_pos (by omega), a1, decide_eq_true c]
      exact p16_ok p.1 _ (by simp; omega) _ 0 true rfl (by omega) (by rw [List.drop_zero, l7]; rfl)
    · rw [if_neg (by rw [dt]; exact c), a1, if_pos (by decide), a3 c, decide_eq_false c]
      rfl
  · obtain rfl := h3 he
    rw [if_pos (by rw [ne_t]; exact he), if_pos (by rfl)]
    simp
theorem when_ok (n : Night) (fr to : Int) : ∃ b e, window_When n fr to = some b ∧ spyref2_NightFault n = some e ∧ (e ≠ 0 ∨ fr < 0 ∨ to < fr ∨ to > n.2.2.2.2.1 → b = (0, 0, true)) ∧ (¬ (e ≠ 0 ∨ fr < 0 ∨ to < fr ∨ to > n.2.2.2.2.1) → spyref2_Times n fr to = some b) := by
  obtain ⟨hnight, e, he⟩ := night_eq n
  rw [window_When_eq, hnight, he, bind_some_, window_when_eq, bind_some_, spyref2_Times_eq]
  by_cases h0 : e = 0
  · rw [if_pos (by rw [ne_f]; exact h0)]
    by_cases h1 : fr < 0
    · rw [if_neg (by rw [df]; exact fun q => q h1)]
      exact ⟨_, e, rfl, rfl, fun _ => rfl, fun q => absurd (.inr (.inl h1)) q⟩
    · rw [if_pos (by rw [df]; exact h1)]
      by_cases h2 : fr > to
      · rw [if_neg (by rw [df]; exact fun q => q h2)]
        exact ⟨_, e, rfl, rfl, fun _ => rfl, fun q => absurd (.inr (.inr (.inl h2))) q⟩
      · rw [if_pos (by rw [df]; exact h2)]
        by_cases h3 : to > n.2.2.2.2.1
        · rw [if_pos (by rw [dt]; exact h3)]
          exact ⟨_, e, rfl, rfl, fun _ => rfl, fun q => absurd (.inr (.inr (.inr h3))) q⟩
        · rw [if_neg (by rw [dt]; exact h3)]
          exact ⟨_, e, rfl, rfl, fun q => by omega, fun _ => rfl⟩
  · rw [if_neg (by rw [ne_f]; exact h0)]
    exact ⟨_, e, rfl, rfl, fun _ => rfl, fun q => absurd (.inl h0) q⟩
theorem WindowFits : ∀ (x0 : (Int × Int) × (Int × Int × Int × Int) × Int × Int × Int × (Int × Int × Int) × (Int × Int × Int) × Int × List Int) (x1 : Int × Int × (Int × Int × Int) × Int × Int × Int × Int × Int × Int × Int × Int) (x2 : Int) (x3 : Int), goodT Tryz.prog (.prod (.prod (.int .i64) (.int .i64)) (.prod (.prod (.int .i64) (.prod (.int .i64) (.prod (.int .i64) (.int .i64)))) (.prod (.int .i64) (.prod (.int .i64) (.prod (.int .i64) (.prod (.prod (.int .i64) (.prod (.int .i64) (.int .i64))) (.prod (.prod (.int .i64) (.prod (.int .i64) (.int .i64))) (.prod (.int .i64) (.list false 3 (.int .i64)))))))))) x0 → goodT Tryz.prog (.prod (.int .i64) (.prod (.int .i64) (.prod (.prod (.int .i64) (.prod (.int .i64) (.int .i64))) (.prod (.int .i64) (.prod (.int .i64) (.prod (.int .i64) (.prod (.int .i64) (.prod (.int .i64) (.prod (.int .i64) (.prod (.int .i64) (.int .i64))))))))))) x1 → goodT Tryz.prog (.int .i64) x2 → goodT Tryz.prog (.int .i64) x3 → spylaw2_WindowFits x0 x1 x2 x3 = some true := by
  intro n r fr to hn hr hf ht
  have wf := wf64 (show (Lit.int .i64 fr).wf = true from hf)
  obtain ⟨b, e, h1, h2, h3, h4⟩ := when_ok n fr to
  rw [spylaw2_WindowFits_eq, windows_ok, bind_some_, if_neg (by decide), h1, h2, bind_some_, bind_some_]
  have p5 : b = (0, 0, true) → spylaw2_WindowFits.p5 fr n r b = some true := by
    intro hb
    rw [spylaw2_WindowFits.p5_eq, hb, if_neg (by decide)]
    exact fits_end n r fr wf
  refine ite_eq (fun c0 => ?_) (fun c0 => p5 (h3 (.inl (by rw [ne_f] at c0; exact c0))))
  refine ite_eq (fun c1 => ?_) (fun c1 => p5 (h3 (.inr (.inl (by rw [df] at c1; omega)))))
  refine ite_eq (fun c2 => ?_) (fun c2 => p5 (h3 (.inr (.inr (.inl (by rw [df] at c2; omega))))))
  refine ite_eq (fun c3 => p5 (h3 (.inr (.inr (.inr (by rw [dt] at c3; omega)))))) (fun c3 => ?_)
  rw [ne_f] at c0
  rw [df] at c1 c2
  rw [dt] at c3
  have hb := h4 (by omega)
  rw [hb, bind_some_, if_neg (by simp)]
  exact fits_end n r fr wf

end Go.Proofs.YtionphbdphbpnaaGreat.Pure
