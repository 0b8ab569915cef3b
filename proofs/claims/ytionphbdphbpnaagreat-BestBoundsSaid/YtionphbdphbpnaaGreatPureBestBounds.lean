/- BestBounds: the pure statement, proved. -/
import Derived.Test.YtionphbdphbpnaaGreatEA0
import Derived.Test.YtionphbdphbpnaaGreatEA1
import Derived.Test.YtionphbdphbpnaaGreatEA2
import Derived.Test.YtionphbdphbpnaaGreatEA3
import Derived.Test.YtionphbdphbpnaaGreatEA4
import Derived.Test.YtionphbdphbpnaaGreatPl
import Derived.Test.YtionphbdphbpnaaGreatLemNum
import Derived.Test.YtionphbdphbpnaaGreatLemDiv
import Derived.Test.YtionphbdphbpnaaGreatLemNight
import Derived.Test.YtionphbdphbpnaaGreatLemBound
import Derived.Test.YtionphbdphbpnaaGreatLemHeight
import Derived.Test.YtionphbdphbpnaaGreatLemSame
import Derived.Test.YtionphbdphbpnaaGreatLemWin
import Derived.Test.YtionphbdphbpnaaGreatLemProp
namespace Go.Proofs.YtionphbdphbpnaaGreat.Pure
set_option linter.unusedVariables false
set_option linter.unusedSimpArgs false
open Go Go.RowKit Go.Proofs.YtionphbdphbpnaaGreat.Pv Go.Proofs.YtionphbdphbpnaaGreat.Pl Go.Proofs.YtionphbdphbpnaaGreat.EA

theorem closed_list (n : Night) (r : Req) (hc : (n.2.2.2.2.2.2.2.2.length : Int) = n.2.2.2.2.1) (hs : n.2.2.2.2.1 ≤ 64) : ∃ l : List Int, spyref2_AllClosed n r = some l ∧ (l.length : Int) = n.2.2.2.2.1 ∧ ∀ k : Nat, (h : k < l.length) → window_why n r k = some l[k] := by
  have h0 : 0 ≤ n.2.2.2.2.1 := by omega
  have main : ∀ (u : Nat) (k : Nat) (acc : List Int), n.2.2.2.2.1.toNat - k = u → k ≤ n.2.2.2.2.1.toNat → acc.length = k → (∀ j : Nat, (h : j < acc.length) → window_why n r j = some acc[j]) →
      ∃ l : List Int, spyref2_AllClosed.p3 (k : Int) n r acc = some l ∧ (l.length : Int) = n.2.2.2.2.1 ∧ ∀ j : Nat, (h : j < l.length) → window_why n r j = some l[j] := by
    intro u
    induction u with
    | zero =>
      intro k acc hu hk hl hw
      rw [spyref2_AllClosed.p3_eq, if_neg (by rw [dt]; omega)]
      exact ⟨acc, rfl, by omega, hw⟩
    | succ u ih =>
      intro k acc hu hk hl hw
      obtain ⟨c, c1, c2, _⟩ := closed_same n r k (by omega) (by omega)
      rw [spyref2_AllClosed.p3_eq, if_pos (by rw [dt]; omega), c2, bind_some_, if_pos (by omega), wi_nat (by omega)]
      refine ih (k + 1) (acc ++ [c]) (by omega) (by omega) (by simp [hl]) fun j hj => ?_
      by_cases e : j < acc.length
      · rw [List.getElem_append_left e]
        exact hw j e
      · have : j = k := by simp at hj; omega
        subst this
        rw [List.getElem_append_right (by omega), c1]
        simp [hl]
  rw [spyref2_AllClosed_eq]
  exact main _ 0 [] rfl (by omega) rfl (fun j h => by simp at h)
/-- A list that is filled place by place. -/
theorem set_fill {α : Type} {acc l : List α} {k : Nat} (hk : k < l.length) (hl : acc.length = l.length) (h : ∀ j, j < k → acc[j]? = l[j]?) : ∀ j, j < k + 1 → (acc.set k l[k])[j]? = l[j]? := by
  intro j hj
  rw [List.getElem?_set]
  by_cases e : k = j
  · subst e
    rw [if_pos rfl, if_pos (by omega), List.getElem?_eq_getElem hk]
  · rw [if_neg e]
    exact h j (by omega)
theorem fill_end {α : Type} {acc l : List α} (hl : acc.length = l.length) (h : ∀ j, j < l.length → acc[j]? = l[j]?) : acc = l := by
  apply List.ext_getElem?
  intro j
  by_cases e : j < l.length
  · exact h j e
  · rw [List.getElem?_eq_none (by omega), List.getElem?_eq_none (by omega)]
theorem slots_p6 (n : Night) (r : Req) (l : List Int) (hl : l.length ≤ 64) (hw : ∀ k : Nat, (h : k < l.length) → window_why n r k = some l[k]) : ∀ (u k : Nat) (acc : List Int), l.length - k = u → k ≤ l.length → acc.length = l.length → (∀ j, j < k → acc[j]? = l[j]?) → window_Slots.p6 (l.length : Int) k n r acc = some (l, 0) := by
  intro u
  induction u with
  | zero =>
    intro k acc hu hk ha hj
    rw [window_Slots.p6_eq, if_neg (by rw [dt]; omega), fill_end ha (fun j h => hj j (by omega))]
  | succ u ih =>
    intro k acc hu hk ha hj
    have hlt : k < l.length := by omega
    rw [window_Slots.p6_eq, if_pos (by rw [dt]; omega), hw k hlt, bind_some_, if_pos (by omega), if_pos (by omega), wi_nat (by omega), toNat_nat]
    exact ih (k + 1) _ (by omega) (by omega) (by simp [ha]) (set_fill hlt ha hj)
/-! How often a request fits into the open spans. -/
theorem div_step {L len : Int} (h0 : 0 ≤ L) (h1 : 1 ≤ len) (h2 : len ≤ 8) : (L % len + 1 = len → (L + 1) / len = L / len + 1 ∧ (L + 1) % len = 0) ∧ (L % len + 1 ≠ len → (L + 1) / len = L / len ∧ (L + 1) % len = L % len + 1) := by
  have : len = 1 ∨ len = 2 ∨ len = 3 ∨ len = 4 ∨ len = 5 ∨ len = 6 ∨ len = 7 ∨ len = 8 := by omega
  rcases this with rfl | rfl | rfl | rfl | rfl | rfl | rfl | rfl <;> omega
def cnt (len : Int) : List (Int × Int) → Int
  | [] => 0
  | x :: l => (x.2 - x.1) / len + cnt len l
theorem cnt_app (len : Int) : ∀ (a b : List (Int × Int)), cnt len (a ++ b) = cnt len a + cnt len b
  | [], b => by simp [cnt]
  | x :: a, b => by rw [List.cons_append, cnt, cnt, cnt_app len a b]; omega
theorem cnt_pos {len : Int} (h1 : 1 ≤ len) : ∀ (a : List (Int × Int)), (∀ x, x ∈ a → x.1 ≤ x.2) → 0 ≤ cnt len a
  | [], _ => by simp [cnt]
  | x :: a, h => by
    have i := cnt_pos h1 a fun y hy => h y (List.mem_cons.2 (.inr hy))
    have j := h x (List.mem_cons_self ..)
    have : 0 ≤ (x.2 - x.1) / len := Int.ediv_nonneg (by omega) (by omega)
    rw [cnt]
    omega
theorem room_p6 (r : Req) (h1 : 1 ≤ r.2.2.2.1) (b : List (Int × Int)) (hb : b.length ≤ 64) (hx : ∀ x, x ∈ b → 0 ≤ x.1 ∧ x.1 ≤ x.2 ∧ x.2 ≤ 64) (ht : cnt r.2.2.2.1 b ≤ 64) : ∀ (u k : Nat), b.length - k = u → k ≤ b.length → plan_Room.p6 (cnt r.2.2.2.1 (b.take k)) b b.length k r = some (if r.2.2.2.2.1 < cnt r.2.2.2.1 b then r.2.2.2.2.1 else cnt r.2.2.2.1 b) := by
  intro u
  induction u with
  | zero =>
    intro k hu hk
    rw [plan_Room.p6_eq, if_neg (by rw [dt]; omega), List.take_of_length_le (by omega)]
  | succ u ih =>
    intro k hu hk
    have hlt : k < b.length := by omega
    have x := hx b[k] (List.getElem_mem ..)
    have e : cnt r.2.2.2.1 (b.take (k + 1)) = cnt r.2.2.2.1 (b.take k) + (b[k].2 - b[k].1) / r.2.2.2.1 := by
      rw [List.take_succ_eq_append_getElem hlt, cnt_app]
      simp [cnt]
    have p1 := cnt_pos h1 (b.take k) fun y hy => (hx y (List.mem_of_mem_take hy)).2.1
    have p2 := cnt_pos h1 (b.drop (k + 1)) fun y hy => (hx y (List.mem_of_mem_drop hy)).2.1
    have p3 : cnt r.2.2.2.1 b = cnt r.2.2.2.1 (b.take (k + 1)) + cnt r.2.2.2.1 (b.drop (k + 1)) := by rw [← cnt_app, List.take_append_drop]
    have p4 : 0 ≤ (b[k].2 - b[k].1) / r.2.2.2.1 := Int.ediv_nonneg (by omega) (by omega)
    rw [plan_Room.p6_eq, if_pos (by rw [dt]; omega), if_pos (by omega), if_pos (by omega), if_neg (by omega), toNat_nat, getD_nat _ _ hlt, wi (x := b[k].2 - b[k].1) (by omega) (by omega), Int.tdiv_eq_ediv_of_nonneg (by omega), wi (x := (b[k].2 - b[k].1) / r.2.2.2.1) (by omega) (by omega), wi (x := cnt r.2.2.2.1 (b.take k) + (b[k].2 - b[k].1) / r.2.2.2.1) (by omega) (by omega), wi_nat (by omega), ← e]
    exact ih (k + 1) (by omega) (by omega)
structure Inv (len : Int) (k : Nat) (b : List (Int × Int)) (count run : Int) : Prop where
  few : b.length ≤ k
  el : ∀ x, x ∈ b → 0 ≤ x.1 ∧ x.1 ≤ x.2 ∧ x.2 ≤ k
  sum : count = cnt len b
  le : count ≤ k
  last : (b = [] ∧ run = 0) ∨ ∃ b0 f t, b = b0 ++ [(f, t)] ∧ ((t = (k : Int) ∧ run = ((k : Int) - f) % len) ∨ (t < k ∧ run = 0))
theorem room_p5 (r : Req) (h1 : 1 ≤ r.2.2.2.1) (h8 : r.2.2.2.1 ≤ 8) (t : List Int) (ht : t.length ≤ 64) : ∀ (u k : Nat) (b : List (Int × Int)) (count run : Int), t.length - k = u → k ≤ t.length → Inv r.2.2.2.1 k b count run → ∃ b' c' r', Inv r.2.2.2.1 t.length b' c' r' ∧ window_Of.p6 t t.length k b = some (b', 0) ∧ spyref2_RoomOf.p5 count run t t.length k r = if decide (c' > r.2.2.2.2.1) = true then some r.2.2.2.2.1 else some c' := by
  intro u
  induction u with
  | zero =>
    intro k b c rn hu hk hi
    rw [window_Of.p6_eq, spyref2_RoomOf.p5_eq, if_neg (by rw [dt]; omega), if_neg (by rw [dt]; omega)]
    exact ⟨b, c, rn, by rw [show t.length = k by omega]; exact hi, rfl, rfl⟩
  | succ u ih =>
    intro k b c rn hu hk hi
    have hlt : k < t.length := by omega
    have a : decide ((k : Int) < (t.length : Int)) = true := by rw [dt]; omega
    have hb := hi.few
    have hw : IntKind.i64.wrap ((b.length : Int) - 1) = (b.length : Int) - 1 := wi (by omega) (by omega)
    have c0 : 0 ≤ c := by rw [hi.sum]; exact cnt_pos h1 b fun x hx => (hi.el x hx).2.1
    have c1 := hi.le
    have wc : IntKind.i64.wrap (c + 1) = c + 1 := wi (by omega) (by omega)
    rw [window_Of.p6_eq, spyref2_RoomOf.p5_eq]
    simp only [if_pos a, if_pos (show (0 : Int) ≤ k by omega), if_pos (show (k : Int) < t.length by omega), wi_nat (show k < 9223372036854775807 by omega), hw, wc]
    by_cases z : ((t.getD (k : Int).toNat 0) != 0) = true
    · rw [if_pos z, if_pos z, if_neg (show ¬ (0 == r.2.2.2.1) = true by rw [eq_t]; omega)]
      refine ih (k + 1) b c 0 (by omega) (by omega) ⟨by omega, fun x hx => ?_, hi.sum, by omega, ?_⟩
      · have := hi.el x hx
        exact ⟨this.1, this.2.1, by omega⟩
      · rcases hi.last with ⟨e, _⟩ | ⟨b0, f, q, e, h⟩
        · exact .inl ⟨e, rfl⟩
        · exact .inr ⟨b0, f, q, e, .inr ⟨by omega, rfl⟩⟩
    · rw [if_neg z, if_neg z]
      -- the run goes on from L
      have go : ∀ (b0 : List (Int × Int)) (f L : Int), 0 ≤ f → 0 ≤ L → f + L = k → b0.length + 1 ≤ k + 1 → (∀ x, x ∈ b0 → 0 ≤ x.1 ∧ x.1 ≤ x.2 ∧ x.2 ≤ k) → c = cnt r.2.2.2.1 b0 + L / r.2.2.2.1 → rn = L % r.2.2.2.1 → ∃ b' c' r', Inv r.2.2.2.1 t.length b' c' r' ∧ window_Of.p6 t t.length ((k + 1 : Nat) : Int) (b0 ++ [(f, ((k + 1 : Nat) : Int))]) = some (b', 0) ∧ (if (IntKind.i64.wrap (rn + 1) == r.2.2.2.1) = true then spyref2_RoomOf.p5 (c + 1) 0 t t.length ((k + 1 : Nat) : Int) r else spyref2_RoomOf.p5 c (IntKind.i64.wrap (rn + 1)) t t.length ((k + 1 : Nat) : Int) r) = if decide (c' > r.2.2.2.2.1) = true then some r.2.2.2.2.1 else some c' := by
        intro b0 f L hf hL hfl hlen hel hc hrn
        obtain ⟨d1, d2⟩ := div_step hL h1 h8
        have r0 : 0 ≤ L % r.2.2.2.1 := Int.emod_nonneg _ (by omega)
        have r1 : L % r.2.2.2.1 < r.2.2.2.1 := Int.emod_lt_of_pos _ (by omega)
        have el2 : ∀ x, x ∈ b0 ++ [(f, ((k + 1 : Nat) : Int))] → 0 ≤ x.1 ∧ x.1 ≤ x.2 ∧ x.2 ≤ ((k + 1 : Nat) : Int) := by
          intro x hx
          rcases List.mem_append.1 hx with h | h
          · have := hel x h
            exact ⟨this.1, this.2.1, by omega⟩
          · rw [List.mem_singleton] at h
            subst h
            exact ⟨hf, by simp only; omega, by simp only; omega⟩
        have eL : ((k + 1 : Nat) : Int) - f = L + 1 := by omega
        have cn : cnt r.2.2.2.1 (b0 ++ [(f, ((k + 1 : Nat) : Int))]) = cnt r.2.2.2.1 b0 + (L + 1) / r.2.2.2.1 := by
          rw [cnt_app, cnt, cnt, ← eL]
          simp
        rw [hrn, wi (x := L % r.2.2.2.1 + 1) (by omega) (by omega)]
        by_cases g : L % r.2.2.2.1 + 1 = r.2.2.2.1
        · rw [if_pos (by rw [eq_t]; exact g)]
          obtain ⟨g1, g2⟩ := d1 g
          exact ih (k + 1) _ (c + 1) 0 (by omega) (by omega) ⟨by simp; omega, el2, by rw [cn, g1, hc]; omega, by omega, .inr ⟨b0, f, _, rfl, .inl ⟨rfl, by rw [eL, g2]⟩⟩⟩
        · rw [if_neg (by rw [eq_t]; exact g)]
          obtain ⟨g1, g2⟩ := d2 g
          exact ih (k + 1) _ c (L % r.2.2.2.1 + 1) (by omega) (by omega) ⟨by simp; omega, el2, by rw [cn, g1, hc], by omega, .inr ⟨b0, f, _, rfl, .inl ⟨rfl, by rw [eL, g2]⟩⟩⟩
      -- a new span
      have fresh : rn = 0 → ∃ b' c' r', Inv r.2.2.2.1 t.length b' c' r' ∧ (if (b.length + 1) * 16 ≤ 140737488355328 then window_Of.p6 t t.length ((k + 1 : Nat) : Int) (b ++ [((k : Int), ((k + 1 : Nat) : Int))]) else none) = some (b', 0) ∧ (if (IntKind.i64.wrap (rn + 1) == r.2.2.2.1) = true then spyref2_RoomOf.p5 (c + 1) 0 t t.length ((k + 1 : Nat) : Int) r else spyref2_RoomOf.p5 c (IntKind.i64.wrap (rn + 1)) t t.length ((k + 1 : Nat) : Int) r) = if decide (c' > r.2.2.2.2.1) = true then some r.2.2.2.2.1 else some c' := by
        intro hr0
        rw [if_pos (by omega)]
        exact go b k 0 (by omega) (by omega) (by omega) (by omega) hi.el (by rw [hi.sum]; simp) (by rw [hr0]; simp)
      rcases hi.last with ⟨e, hr0⟩ | ⟨b0, f, q, e, h⟩
      · rw [if_neg (show ¬ decide ((b.length : Int) > 0) = true by rw [e]; decide)]
        exact fresh hr0
      · have bl : b.length = b0.length + 1 := by rw [e]; simp
        have gl : b.getD ((b.length : Int) - 1).toNat (0, 0) = (f, q) := by
          rw [show ((b.length : Int) - 1).toNat = b0.length by omega, e]
          simp
        simp only [if_pos (show decide ((b.length : Int) > 0) = true by rw [dt]; omega), if_pos (show 0 ≤ (b.length : Int) - 1 by omega), if_pos (show (b.length : Int) - 1 < b.length by omega), gl]
        rcases h with ⟨hq, hr⟩ | ⟨hq, hr⟩
        · rw [if_pos (by rw [eq_t]; exact hq)]
          have es : b.set ((b.length : Int) - 1).toNat (f, ((k + 1 : Nat) : Int)) = b0 ++ [(f, ((k + 1 : Nat) : Int))] := by
            rw [show ((b.length : Int) - 1).toNat = b0.length by omega, e]
            simp
          rw [es]
          have fq := hi.el (f, q) (by rw [e]; simp)
          simp only at fq
          refine go b0 f (k - f) fq.1 (by omega) (by omega) (by omega) (fun x hx => hi.el x (by rw [e]; simp [hx])) ?_ hr
          rw [hi.sum, e, cnt_app, cnt, cnt, hq]
          simp
        · rw [if_neg (by rw [eq_t]; omega)]
          exact fresh hr
theorem room_same (n : Night) (r : Req) : Same (fun _ => True) (plan_Room n r) (spyref2_RoomOf n r) := by
  obtain ⟨e, h1, h2, h3⟩ := both_eq n r
  rw [plan_Room_eq, window_Of_eq, window_Slots_eq, spyref2_RoomOf_eq, h1, h2, bind_some_, bind_some_]
  by_cases he : e = 0
  · subst he
    obtain ⟨ok, rq⟩ := h3 rfl
    have hs := ok.slots
    have rl := request_len rq
    obtain ⟨l, l1, l2, l3⟩ := closed_list n r ok.cloud hs.2
    have q := slots_p6 n r l (by omega) l3 _ 0 (List.replicate n.2.2.2.2.1.toNat (0 : Int)) rfl (by omega) (by simp; omega) (fun j h => absurd h (by omega))
    have el : ((List.replicate n.2.2.2.2.1.toNat (0 : Int)).length : Int) = (l.length : Int) := by simp; omega
    obtain ⟨b, c, rn, hi, b1, b2⟩ := room_p5 r rl.1 rl.2.1 l (by omega) _ 0 [] 0 0 rfl (by omega) ⟨by simp, by simp, rfl, by omega, .inl ⟨rfl, rfl⟩⟩
    rw [show ((0 : Nat) : Int) = 0 from rfl] at q b1 b2
    have z0 : ¬ ((0 : Int) != 0) = true := by decide
    rw [if_neg z0, if_neg z0, if_pos rfl, if_pos (by omega), if_pos (by omega), el, q, bind_some_]
    simp only
    rw [if_neg z0, b1, bind_some_]
    simp only
    rw [if_neg z0, l1, bind_some_, b2]
    have hf := hi.few
    have hc := hi.sum
    have hle := hi.le
    have p6 := room_p6 r rl.1 b (by omega) (fun x hx => by have := hi.el x hx; omega) (by omega) _ 0 rfl (by omega)
    rw [show ((0 : Nat) : Int) = 0 from rfl, List.take_zero, show cnt r.2.2.2.1 [] = 0 from rfl] at p6
    rw [p6, ← hc]
    by_cases g : c > r.2.2.2.2.1
    · rw [if_pos (by omega), if_pos (by rw [dt]; exact g)]
      exact .mk _ trivial
    · rw [if_neg (by omega), if_neg (by rw [dt]; exact g)]
      exact .mk _ trivial
  · rw [if_pos (by rw [ne_t]; exact he), if_pos (by rw [ne_t]; exact he)]
    simp only [bind_some_]
    rw [if_pos (by rw [ne_t]; exact he), bind_some_, if_pos (by rw [ne_t]; exact he)]
    exact .mk _ trivial
abbrev Axis_ : Type := Int × Int × Int × Int
abbrev Mount_ : Type := Axis_ × Axis_ × Int × Int
abbrev State_ : Type := Int × (Int × Int) × List (List Int)
theorem axis_same (a : Axis_) : Same (fun _ => True) (slew_CheckAxis a) (spyref2_AxisFault a) := by
  rw [slew_CheckAxis_eq, spyref2_AxisFault_eq, Int.mul_comm a.2.2.2 64]
  simp only [dt, df]
  repeat' (refine Same.ite Iff.rfl (fun _ => ?_) (fun _ => ?_))
  all_goals try exact .mk _ trivial
  by_cases c1 : a.2.2.2 > a.2.2.1
  · rw [if_neg (show ¬ ¬ a.2.2.2 > a.2.2.1 by omega)]
    refine .right (fun _ => ?_) (fun _ => .mk _ trivial)
    rw [if_neg (show ¬ ¬ a.2.2.2 > a.2.2.1 by omega)]
    exact .mk _ trivial
  · rw [if_pos (show ¬ a.2.2.2 > a.2.2.1 by omega), if_pos (show ¬ a.2.2.2 > a.2.2.1 by omega)]
    exact .ite Iff.rfl (fun _ => .ite Iff.rfl (fun _ => .mk _ trivial) (fun _ => .mk _ trivial)) (fun _ => .mk _ trivial)
theorem in_within (a : Axis_) (x : Int) : slew_In a x = some (decide (a.1 ≤ x ∧ x ≤ a.2.1)) ∧ spyref2_Within a x = some (decide (a.1 ≤ x ∧ x ≤ a.2.1)) := by
  rw [slew_In_eq, spyref2_Within_eq]
  simp only [dt, ge_iff_le]
  by_cases h : a.1 ≤ x
  · rw [if_pos h]
    simp [h]
  · rw [if_neg h]
    simp [h]
theorem mount_same (m : Mount_) : Same (fun _ => True) (slew_CheckMount m) (spyref2_MountFault m) := by
  rw [slew_CheckMount_eq, spyref2_MountFault_eq]
  refine (axis_same m.1).bind fun r _ => .ite Iff.rfl (fun _ => .mk _ trivial) (fun _ => (axis_same m.2.1).bind fun r _ => .ite Iff.rfl (fun _ => .mk _ trivial) (fun _ => ?_))
  rw [(in_within ..).1, (in_within ..).1, (in_within ..).2, (in_within ..).2]
  simp only [bind_some_]
  exact .ite Iff.rfl (fun _ => .ite Iff.rfl (fun _ => .mk _ trivial) (fun _ => .mk _ trivial)) (fun _ => .mk _ trivial)
theorem all_same (n : Night) (m : Mount_) (p : Progr) : Same (fun r => r = 0 → NightOk n ∧ ProgOk p) (plan_CheckAll n m p) (spyref2_AllFault n m p) := by
  obtain ⟨h1, e, h2⟩ := night_eq n
  rw [plan_CheckAll_eq, spyref2_AllFault_eq, h1, h2, bind_some_, bind_some_]
  refine .ite Iff.rfl (fun q => .mk _ (fun z => by rw [z] at q; exact absurd q (by decide))) (fun q => ?_)
  have he : e = 0 := Classical.byContradiction fun z => q (by rw [ne_t]; exact z)
  refine (mount_same m).bind fun r _ => .ite Iff.rfl (fun q => .mk _ (fun z => by rw [z] at q; exact absurd q (by decide))) (fun _ => ?_)
  rw [bind_id, bind_id]
  exact (prog_same p).imp fun r hr hz => ⟨night_ok (by rw [h2, he]), hr hz⟩
theorem bests_ok : spylaw2_bests = some true := by
  have h1 : best_Find ((0, 0), (0, 0, 0, 0), 0, 0, 0, (0, 0, 0), (0, 0, 0), 0, []) ((0, 0, 0, 0), (0, 0, 0, 0), 0, 0) ([], []) = some (([], 0), 4) := callL_some.2 ⟨400, by kernel_rfl⟩
  have h2 : best_Bound ((0, 0), (0, 0, 0, 0), 0, 0, 0, (0, 0, 0), (0, 0, 0), 0, []) ((0, 0, 0, 0), (0, 0, 0, 0), 0, 0) ([], []) = some (0, 4) := callL_some.2 ⟨400, by kernel_rfl⟩
  rw [spylaw2_bests_eq, h1, h2]
  rfl
theorem bounds_run (n : Night) (b e : Int) (l : List Req) (hl : l.length ≤ 9223372036854775807) : ∀ (u k : Nat) (s : Int), l.length - k = u → k ≤ l.length → ∃ t, best_Bound.p6 s l l.length k n = some (t, 0) ∧ spylaw2_BestBounds.p9 b e s l l.length k n = if (e == 0) = true then some (b == t) else some false := by
  intro u
  induction u with
  | zero =>
    intro k s hu hk
    rw [best_Bound.p6_eq, spylaw2_BestBounds.p9_eq, if_neg (by rw [dt]; omega), if_neg (by rw [dt]; omega)]
    exact ⟨s, rfl, rfl⟩
  | succ u ih =>
    intro k s hu hk
    have hlt : k < l.length := by omega
    have a : decide ((k : Int) < (l.length : Int)) = true := by rw [dt]; omega
    obtain ⟨q, q1, q2, _⟩ := room_same n l[k]
    rw [best_Bound.p6_eq, spylaw2_BestBounds.p9_eq]
    simp only [if_pos a, if_pos (show (0 : Int) ≤ k by omega), if_pos (show (k : Int) < l.length by omega), toNat_nat, getD_nat _ _ hlt, wi_nat (show k < 9223372036854775807 by omega), q1, q2, bind_some_]
    exact ih (k + 1) _ (by omega) (by omega)
theorem BestBounds : ∀ (x0 : (Int × Int) × (Int × Int × Int × Int) × Int × Int × Int × (Int × Int × Int) × (Int × Int × Int) × Int × List Int) (x1 : (Int × Int × Int × Int) × (Int × Int × Int × Int) × Int × Int) (x2 : (List (ByteArray × Int)) × List (Int × Int × (Int × Int × Int) × Int × Int × Int × Int × Int × Int × Int × Int)), goodT Tryz.prog (.prod (.prod (.int .i64) (.int .i64)) (.prod (.prod (.int .i64) (.prod (.int .i64) (.prod (.int .i64) (.int .i64)))) (.prod (.int .i64) (.prod (.int .i64) (.prod (.int .i64) (.prod (.prod (.int .i64) (.prod (.int .i64) (.int .i64))) (.prod (.prod (.int .i64) (.prod (.int .i64) (.int .i64))) (.prod (.int .i64) (.list false 3 (.int .i64)))))))))) x0 → goodT Tryz.prog (.prod (.prod (.int .i64) (.prod (.int .i64) (.prod (.int .i64) (.int .i64)))) (.prod (.prod (.int .i64) (.prod (.int .i64) (.prod (.int .i64) (.int .i64)))) (.prod (.int .i64) (.int .i64)))) x1 → goodT Tryz.prog (.prod (.list false 137 (.prod .str (.int .i64))) (.list false 37 (.prod (.int .i64) (.prod (.int .i64) (.prod (.prod (.int .i64) (.prod (.int .i64) (.int .i64))) (.prod (.int .i64) (.prod (.int .i64) (.prod (.int .i64) (.prod (.int .i64) (.prod (.int .i64) (.prod (.int .i64) (.prod (.int .i64) (.int .i64))))))))))))) x2 → spylaw2_BestBounds x0 x1 x2 = some true := by
  intro n m p hn hm hp
  obtain ⟨e, e1, e2, _⟩ := all_same n m p
  rw [spylaw2_BestBounds_eq, bests_ok, bind_some_, if_neg (by decide), best_Bound_eq, e1, e2, bind_some_]
  by_cases he : e = 0
  · subst he
    have hl : p.2.length ≤ 9223372036854775807 := hp.2.1
    obtain ⟨t, t1, _⟩ := bounds_run n 0 0 p.2 hl _ 0 0 rfl (by omega)
    obtain ⟨t', t1', t2'⟩ := bounds_run n t 0 p.2 hl _ 0 0 rfl (by omega)
    rw [show ((0 : Nat) : Int) = 0 from rfl] at t1 t1' t2'
    rw [if_neg (show ¬ ((0 : Int) != 0) = true by decide), t1, bind_some_, bind_some_, if_neg (show ¬ ((0 : Int) != 0) = true by decide)]
    rw [t1] at t1'
    cases t1'
    rw [t2']
    simp
  · have h : (e != 0) = true := by rw [ne_t]; exact he
    rw [if_pos h, bind_some_, bind_some_, if_pos h]
    simp

end Go.Proofs.YtionphbdphbpnaaGreat.Pure
