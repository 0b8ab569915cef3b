/- PlanWorths: the pure statement, proved. -/
import Derived.Test.YtionphbdphbpnaaGreatEA0
import Derived.Test.YtionphbdphbpnaaGreatEA1
import Derived.Test.YtionphbdphbpnaaGreatEA2
import Derived.Test.YtionphbdphbpnaaGreatEA3
import Derived.Test.YtionphbdphbpnaaGreatEA4
import Derived.Test.YtionphbdphbpnaaGreatPl
import Derived.Test.YtionphbdphbpnaaGreatLemNum
import Derived.Test.YtionphbdphbpnaaGreatLemDiv
import Derived.Test.YtionphbdphbpnaaGreatLemNight
import Derived.Test.YtionphbdphbpnaaGreatLemBound
import Derived.Test.YtionphbdphbpnaaGreatLemHeight
import Derived.Test.YtionphbdphbpnaaGreatLemSame
import Derived.Test.YtionphbdphbpnaaGreatLemWin
import Derived.Test.YtionphbdphbpnaaGreatLemProp
namespace Go.Proofs.YtionphbdphbpnaaGreat.Pure
set_option linter.unusedVariables false
set_option linter.unusedSimpArgs false
open Go Go.RowKit Go.Proofs.YtionphbdphbpnaaGreat.Pv Go.Proofs.YtionphbdphbpnaaGreat.Pl Go.Proofs.YtionphbdphbpnaaGreat.EA

theorem closed_list (n : Night) (r : Req) (hc : (n.2.2.2.2.2.2.2.2.length : Int) = n.2.2.2.2.1) (hs : n.2.2.2.2.1 ≤ 64) : ∃ l : List Int, spyref2_AllClosed n r = some l ∧ (l.length : Int) = n.2.2.2.2.1 ∧ ∀ k : Nat, (h : k < l.length) → window_why n r k = some l[k] := by
  have h0 : 0 ≤ n.2.2.2.2.1 := by omega
  have main : ∀ (u : Nat) (k : Nat) (acc : List Int), n.2.2.2.2.1.toNat - k = u → k ≤ n.2.2.2.2.1.toNat → acc.length = k → (∀ j : Nat, (h : j < acc.length) → window_why n r j = some acc[j]) →
      ∃ l : List Int, spyref2_AllClosed.p3 (k : Int) n r acc = some l ∧ (l.length : Int) = n.2.2.2.2.1 ∧ ∀ j : Nat, (h : j < l.length) → window_why n r j = some l[j] := by
    intro u
    induction u with
    | zero =>
      intro k acc hu hk hl hw
      rw [spyref2_AllClosed.p3_eq, if_neg (by rw [dt]; omega)]
      exact ⟨acc, rfl, by omega, hw⟩
    | succ u ih =>
      intro k acc hu hk hl hw
      obtain ⟨c, c1, c2, _⟩ := closed_same n r k (by omega) (by omega)
      rw [spyref2_AllClosed.p3_eq, if_pos (by rw [dt]; omega), c2, bind_some_, if_pos (by omega), wi_nat (by omega)]
      refine ih (k + 1) (acc ++ [c]) (by omega) (by omega) (by simp [hl]) fun j hj => ?_
      by_cases e : j < acc.length
      · rw [List.getElem_append_left e]
        exact hw j e
      · have : j = k := by simp at hj; omega
        subst this
        rw [List.getElem_append_right (by omega), c1]
        simp [hl]
  rw [spyref2_AllClosed_eq]
  exact main _ 0 [] rfl (by omega) rfl (fun j h => by simp at h)
/-- A list that is filled place by place. -/
theorem set_fill {α : Type} {acc l : List α} {k : Nat} (hk : k < l.length) (hl : acc.length = l.length) (h : ∀ j, j < k → acc[j]? = l[j]?) : ∀ j, j < k + 1 → (acc.set k l[k])[j]? = l[j]? := by
  intro j hj
  rw [List.getElem?_set]
  by_cases e : k = j
  · subst e
    rw [if_pos rfl, if_pos (by omega), List.getElem?_eq_getElem hk]
  · rw [if_neg e]
    exact h j (by omega)
theorem fill_end {α : Type} {acc l : List α} (hl : acc.length = l.length) (h : ∀ j, j < l.length → acc[j]? = l[j]?) : acc = l := by
  apply List.ext_getElem?
  intro j
  by_cases e : j < l.length
  · exact h j e
  · rw [List.getElem?_eq_none (by omega), List.getElem?_eq_none (by omega)]
theorem slots_p6 (n : Night) (r : Req) (l : List Int) (hl : l.length ≤ 64) (hw : ∀ k : Nat, (h : k < l.length) → window_why n r k = some l[k]) : ∀ (u k : Nat) (acc : List Int), l.length - k = u → k ≤ l.length → acc.length = l.length → (∀ j, j < k → acc[j]? = l[j]?) → window_Slots.p6 (l.length : Int) k n r acc = some (l, 0) := by
  intro u
  induction u with
  | zero =>
    intro k acc hu hk ha hj
    rw [window_Slots.p6_eq, if_neg (by rw [dt]; omega), fill_end ha (fun j h => hj j (by omega))]
  | succ u ih =>
    intro k acc hu hk ha hj
    have hlt : k < l.length := by omega
    rw [window_Slots.p6_eq, if_pos (by rw [dt]; omega), hw k hlt, bind_some_, if_pos (by omega), if_pos (by omega), wi_nat (by omega), toNat_nat]
    exact ih (k + 1) _ (by omega) (by omega) (by simp [ha]) (set_fill hlt ha hj)
/-! Where a number stands in a programme. -/
theorem index_run (l : List Req) (id : Int) (hl : l.length ≤ 16) : ∀ (u k : Nat), l.length - k = u → k ≤ l.length → (spyref2_IndexOf.p2 id l l.length k = some (-1) ∧ id ∉ (l.drop k).map (·.1)) ∨ ∃ j, ∃ h : j < l.length, k ≤ j ∧ spyref2_IndexOf.p2 id l l.length k = some (j : Int) ∧ l[j].1 = id := by
  intro u
  induction u with
  | zero =>
    intro k h hk
    rw [spyref2_IndexOf.p2_eq, if_neg (by rw [dt]; omega), List.drop_eq_nil_of_le (by omega)]
    exact .inl ⟨rfl, by simp⟩
  | succ u ih =>
    intro k h hk
    have hlt : k < l.length := by omega
    rw [spyref2_IndexOf.p2_eq, if_pos (by rw [dt]; omega), if_pos (by omega), if_pos (by omega), toNat_nat, getD_nat _ _ hlt, wi_nat (by omega), List.drop_eq_getElem_cons hlt]
    by_cases c : l[k].1 = id
    · rw [if_pos (by rw [eq_t]; exact c)]
      exact .inr ⟨k, hlt, by omega, rfl, c⟩
    · rw [if_neg (by rw [eq_t]; exact c)]
      rcases ih (k + 1) (by omega) (by omega) with ⟨h1, h2⟩ | ⟨j, hj, h0, h1, h2⟩
      · refine .inl ⟨h1, fun q => ?_⟩
        rw [List.map_cons] at q
        exact (List.mem_cons.1 q).elim (fun z => c z.symm) h2
      · exact .inr ⟨j, hj, by omega, h1, h2⟩
theorem index_of (p : Progr) (id : Int) (hl : p.2.length ≤ 16) : (spyref2_IndexOf p id = some (-1) ∧ id ∉ p.2.map (·.1)) ∨ ∃ j, ∃ h : j < p.2.length, spyref2_IndexOf p id = some (j : Int) ∧ p.2[j].1 = id := by
  rw [spyref2_IndexOf_eq]
  rcases index_run p.2 id hl _ 0 rfl (by omega) with ⟨h1, h2⟩ | ⟨j, hj, _, h1, h2⟩
  · exact .inl ⟨h1, by simpa using h2⟩
  · exact .inr ⟨j, hj, h1, h2⟩
/-! What a list of visits is worth. -/
def worthOf (r : Req) : Int := r.2.2.2.2.2.2.2.2.2.2
def Table (p : Progr) (k : Nat) (b : List (Int × Int)) : Prop := (∀ j, (h : j < p.2.length) → j < k → lookM (.int .i64) (.int .i64) p.2[j].1 b = some (worthOf p.2[j])) ∧ ∀ x, x ∉ (p.2.take k).map (·.1) → lookM (.int .i64) (.int .i64) x b = none
theorem worth_p4 (p : Progr) (ok : ProgOk p) (l : List (Int × Int × Int × Int)) (s : Int) : ∀ (u k : Nat) (b : List (Int × Int)), p.2.length - k = u → k ≤ p.2.length → Table p k b → ∃ b', Table p p.2.length b' ∧ plan_Worth.p4 l s p.2 p.2.length k b = plan_Worth.p9 s l l.length 0 b' := by
  have hr := ok.reqs
  intro u
  induction u with
  | zero =>
    intro k b hu hk hb
    rw [plan_Worth.p4_eq, if_neg (by rw [dt]; omega)]
    exact ⟨b, by rw [show p.2.length = k by omega]; exact hb, rfl⟩
  | succ u ih =>
    intro k b hu hk hb
    have hlt : k < p.2.length := by omega
    rw [plan_Worth.p4_eq, if_pos (by rw [dt]; omega), if_pos (by omega), if_pos (by omega), toNat_nat, getD_nat _ _ hlt, wi_nat (by omega)]
    refine ih (k + 1) _ (by omega) (by omega) ⟨fun j h hj => ?_, fun x hx => ?_⟩
    · obtain ⟨h1, h2⟩ := look_upd (k := .int .i64) (v := .int .i64) (fun _ _ => keyI) p.2[k].1 (worthOf p.2[k]) p.2[j].1 b
      by_cases e : j = k
      · subst e
        exact h1 rfl
      · have hn := (ok.at_ k hlt).2.2.2
        refine (h2 fun q => hn ?_).trans (hb.1 j h (by omega))
        rw [← q]
        exact List.mem_map.2 ⟨p.2[j], List.mem_take_iff_getElem.2 ⟨j, by omega, rfl⟩, rfl⟩
    · rw [take_map _ _ hlt, List.mem_append, List.mem_singleton] at hx
      obtain ⟨_, h2⟩ := look_upd (k := .int .i64) (v := .int .i64) (fun _ _ => keyI) p.2[k].1 (worthOf p.2[k]) x b
      exact (h2 fun q => hx (.inr q)).trans (hb.2 x fun q => hx (.inl q))
theorem worth_p9 (p : Progr) (ok : ProgOk p) (l : List (Int × Int × Int × Int)) (hl : l.length ≤ 9223372036854775807) (b : List (Int × Int)) (hb : Table p p.2.length b) : ∀ (u k : Nat) (s : Int), l.length - k = u → k ≤ l.length → IntKind.i64.wrap s = s → Same (fun _ => True) (plan_Worth.p9 s l l.length k b) (spyref2_Worth.p5 s l l.length k p) := by
  intro u
  induction u with
  | zero =>
    intro k s hu hk hs
    rw [plan_Worth.p9_eq, spyref2_Worth.p5_eq, if_neg (by rw [dt]; omega), if_neg (by rw [dt]; omega)]
    exact .mk _ trivial
  | succ u ih =>
    intro k s hu hk hs
    have hlt : k < l.length := by omega
    have a : decide ((k : Int) < (l.length : Int)) = true := by rw [dt]; omega
    have ww : ∀ y, IntKind.i64.wrap (IntKind.i64.wrap y) = IntKind.i64.wrap y := fun y => wi (wi_pos y).1 (wi_pos y).2
    rw [plan_Worth.p9_eq, spyref2_Worth.p5_eq]
    simp only [if_pos a, if_pos (show (0 : Int) ≤ k by omega), if_pos (show (k : Int) < l.length by omega), toNat_nat, getD_nat _ _ hlt, wi_nat (show k < 9223372036854775807 by omega)]
    rcases index_of p l[k].1 ok.reqs with ⟨h1, h2⟩ | ⟨j, hj, h1, h2⟩
    · rw [h1, bind_some_, if_neg (by decide), hb.2 _ (by simpa using h2)]
      rw [show s + Option.getD (none : Option Int) 0 = s by simp, hs]
      exact ih (k + 1) s (by omega) (by omega) hs
    · have e := hb.1 j hj (by omega)
      rw [h2] at e
      rw [h1, bind_some_, if_pos (by rw [dt]; omega), if_pos (by omega), if_pos (by omega), toNat_nat, getD_nat _ _ hj, e]
      exact ih (k + 1) _ (by omega) (by omega) (ww _)
theorem worth_none (l : List (Int × Int × Int × Int)) (hl : l.length ≤ 9223372036854775807) : ∀ (u k : Nat), l.length - k = u → k ≤ l.length → plan_Worth.p9 0 l l.length k [] = some 0 := by
  intro u
  induction u with
  | zero =>
    intro k hu hk
    rw [plan_Worth.p9_eq, if_neg (by rw [dt]; omega)]
  | succ u ih =>
    intro k hu hk
    rw [plan_Worth.p9_eq, if_pos (by rw [dt]; omega), if_pos (by omega), if_pos (by omega), wi_nat (by omega)]
    exact ih (k + 1) (by omega) (by omega)
theorem worth_same (p : Progr) (l : List (Int × Int × Int × Int)) (hl : l.length ≤ 9223372036854775807) : Same (fun _ => True) (plan_Worth p l) (spyref2_Worth p l) := by
  obtain ⟨e, h1, h2, h3⟩ := prog_same p
  rw [plan_Worth_eq, spyref2_Worth_eq, h1, h2, bind_some_, bind_some_]
  by_cases he : e = 0
  · have ok := h3 he
    rw [if_pos (by rw [eq_t]; exact he), if_neg (by rw [ne_t]; exact fun q => q he)]
    obtain ⟨b, b1, b2⟩ := worth_p4 p ok l 0 _ 0 [] rfl (by omega) ⟨fun j _ h => absurd h (by omega), fun x _ => rfl⟩
    rw [show ((0 : Nat) : Int) = 0 from rfl] at b2
    rw [b2]
    exact worth_p9 p ok l hl b b1 _ 0 0 rfl (by omega) (by decide +kernel)
  · rw [if_neg (by rw [eq_t]; exact he), if_pos (by rw [ne_t]; exact he)]
    have := worth_none l hl _ 0 rfl (by omega)
    rw [show ((0 : Nat) : Int) = 0 from rfl] at this
    rw [this]
    exact .mk _ trivial
/-! How often a request fits into the open spans. -/
theorem div_step {L len : Int} (h0 : 0 ≤ L) (h1 : 1 ≤ len) (h2 : len ≤ 8) : (L % len + 1 = len → (L + 1) / len = L / len + 1 ∧ (L + 1) % len = 0) ∧ (L % len + 1 ≠ len → (L + 1) / len = L / len ∧ (L + 1) % len = L % len + 1) := by
  have : len = 1 ∨ len = 2 ∨ len = 3 ∨ len = 4 ∨ len = 5 ∨ len = 6 ∨ len = 7 ∨ len = 8 := by omega
  rcases this with rfl | rfl | rfl | rfl | rfl | rfl | rfl | rfl <;> omega
def cnt (len : Int) : List (Int × Int) → Int
  | [] => 0
  | x :: l => (x.2 - x.1) / len + cnt len l
theorem cnt_app (len : Int) : ∀ (a b : List (Int × Int)), cnt len (a ++ b) = cnt len a + cnt len b
  | [], b => by simp [cnt]
  | x :: a, b => by rw [List.cons_append, cnt, cnt, cnt_app len a b]; omega
theorem cnt_pos {len : Int} (h1 : 1 ≤ len) : ∀ (a : List (Int × Int)), (∀ x, x ∈ a → x.1 ≤ x.2) → 0 ≤ cnt len a
  | [], _ => by simp [cnt]
  | x :: a, h => by
    have i := cnt_pos h1 a fun y hy => h y (List.mem_cons.2 (.inr hy))
    have j := h x (List.mem_cons_self ..)
    have : 0 ≤ (x.2 - x.1) / len := Int.ediv_nonneg (by omega) (by omega)
    rw [cnt]
    omega
theorem room_p6 (r : Req) (h1 : 1 ≤ r.2.2.2.1) (b : List (Int × Int)) (hb : b.length ≤ 64) (hx : ∀ x, x ∈ b → 0 ≤ x.1 ∧ x.1 ≤ x.2 ∧ x.2 ≤ 64) (ht : cnt r.2.2.2.1 b ≤ 64) : ∀ (u k : Nat), b.length - k = u → k ≤ b.length → plan_Room.p6 (cnt r.2.2.2.1 (b.take k)) b b.length k r = some (if r.2.2.2.2.1 < cnt r.2.2.2.1 b then r.2.2.2.2.1 else cnt r.2.2.2.1 b) := by
  intro u
  induction u with
  | zero =>
    intro k hu hk
    rw [plan_Room.p6_eq, if_neg (by rw [dt]; omega), List.take_of_length_le (by omega)]
  | succ u ih =>
    intro k hu hk
    have hlt : k < b.length := by omega
    have x := hx b[k] (List.getElem_mem ..)
    have e : cnt r.2.2.2.1 (b.take (k + 1)) = cnt r.2.2.2.1 (b.take k) + (b[k].2 - b[k].1) / r.2.2.2.1 := by
      rw [List.take_succ_eq_append_getElem hlt, cnt_app]
      simp [cnt]
    have p1 := cnt_pos h1 (b.take k) fun y hy => (hx y (List.mem_of_mem_take hy)).2.1
    have p2 := cnt_pos h1 (b.drop (k + 1)) fun y hy => (hx y (List.mem_of_mem_drop hy)).2.1
    have p3 : cnt r.2.2.2.1 b = cnt r.2.2.2.1 (b.take (k + 1)) + cnt r.2.2.2.1 (b.drop (k + 1)) := by rw [← cnt_app, List.take_append_drop]
    have p4 : 0 ≤ (b[k].2 - b[k].1) / r.2.2.2.1 := Int.ediv_nonneg (by omega) (by omega)
    rw [plan_Room.p6_eq, if_pos (by rw [dt]; omega), if_pos (by omega), if_pos (by omega), if_neg (by omega), toNat_nat, getD_nat _ _ hlt, wi (x := b[k].2 - b[k].1) (by omega) (by omega), Int.tdiv_eq_ediv_of_nonneg (by omega), wi (x := (b[k].2 - b[k].1) / r.2.2.2.1) (by omega) (by omega), wi (x := cnt r.2.2.2.1 (b.take k) + (b[k].2 - b[k].1) / r.2.2.2.1) (by omega) (by omega), wi_nat (by omega), ← e]
    exact ih (k + 1) (by omega) (by omega)
structure Inv (len : Int) (k : Nat) (b : List (Int × Int)) (count run : Int) : Prop where
  few : b.length ≤ k
  el : ∀ x, x ∈ b → 0 ≤ x.1 ∧ x.1 ≤ x.2 ∧ x.2 ≤ k
  sum : count = cnt len b
  le : count ≤ k
  last : (b = [] ∧ run = 0) ∨ ∃ b0 f t, b = b0 ++ [(f, t)] ∧ ((t = (k : Int) ∧ run = ((k : Int) - f) % len) ∨ (t < k ∧ run = 0))
theorem room_p5 (r : Req) (h1 : 1 ≤ r.2.2.2.1) (h8 : r.2.2.2.1 ≤ 8) (t : List Int) (ht : t.length ≤ 64) : ∀ (u k : Nat) (b : List (Int × Int)) (count run : Int), t.length - k = u → k ≤ t.length → Inv r.2.2.2.1 k b count run → ∃ b' c' r', Inv r.2.2.2.1 t.length b' c' r' ∧ window_Of.p6 t t.length k b = some (b', 0) ∧ spyref2_RoomOf.p5 count run t t.length k r = if decide (c' > r.2.2.2.2.1) = true then some r.2.2.2.2.1 else some c' := by
  intro u
  induction u with
  | zero =>
    intro k b c rn hu hk hi
    rw [window_Of.p6_eq, spyref2_RoomOf.p5_eq, if_neg (by rw [dt]; omega), if_neg (by rw [dt]; omega)]
    exact ⟨b, c, rn, by rw [show t.length = k by omega]; exact hi, rfl, rfl⟩
  | succ u ih =>
    intro k b c rn hu hk hi
    have hlt : k < t.length := by omega
    have a : decide ((k : Int) < (t.length : Int)) = true := by rw [dt]; omega
    have hb := hi.few
    have hw : IntKind.i64.wrap ((b.length : Int) - 1) = (b.length : Int) - 1 := wi (by omega) (by omega)
    have c0 : 0 ≤ c := by rw [hi.sum]; exact cnt_pos h1 b fun x hx => (hi.el x hx).2.1
    have c1 := hi.le
    have wc : IntKind.i64.wrap (c + 1) = c + 1 := wi (by omega) (by omega)
    rw [window_Of.p6_eq, spyref2_RoomOf.p5_eq]
    simp only [if_pos a, if_pos (show (0 : Int) ≤ k by omega), if_pos (show (k : Int) < t.length by omega), wi_nat (show k < 9223372036854775807 by omega), hw, wc]
    by_cases z : ((t.getD (k : Int).toNat 0) != 0) = true
    · rw [if_pos z, if_pos z, if_neg (show ¬ (0 == r.2.2.2.1) = true by rw [eq_t]; omega)]
      refine ih (k + 1) b c 0 (by omega) (by omega) ⟨by omega, fun x hx => ?_, hi.sum, by omega, ?_⟩
      · have := hi.el x hx
        exact ⟨this.1, this.2.1, by omega⟩
      · rcases hi.last with ⟨e, _⟩ | ⟨b0, f, q, e, h⟩
        · exact .inl ⟨e, rfl⟩
        · exact .inr ⟨b0, f, q, e, .inr ⟨by omega, rfl⟩⟩
    · rw [if_neg z, if_neg z]
      -- the run goes on from L
      have go : ∀ (b0 : List (Int × Int)) (f L : Int), 0 ≤ f → 0 ≤ L → f + L = k → b0.length + 1 ≤ k + 1 → (∀ x, x ∈ b0 → 0 ≤ x.1 ∧ x.1 ≤ x.2 ∧ x.2 ≤ k) → c = cnt r.2.2.2.1 b0 + L / r.2.2.2.1 → rn = L % r.2.2.2.1 → ∃ b' c' r', Inv r.2.2.2.1 t.length b' c' r' ∧ window_Of.p6 t t.length ((k + 1 : Nat) : Int) (b0 ++ [(f, ((k + 1 : Nat) : Int))]) = some (b', 0) ∧ (if (IntKind.i64.wrap (rn + 1) == r.2.2.2.1) = true then spyref2_RoomOf.p5 (c + 1) 0 t t.length ((k + 1 : Nat) : Int) r else spyref2_RoomOf.p5 c (IntKind.i64.wrap (rn + 1)) t t.length ((k + 1 : Nat) : Int) r) = if decide (c' > r.2.2.2.2.1) = true then some r.2.2.2.2.1 else some c' := by
        intro b0 f L hf hL hfl hlen hel hc hrn
        obtain ⟨d1, d2⟩ := div_step hL h1 h8
        have r0 : 0 ≤ L % r.2.2.2.1 := Int.emod_nonneg _ (by omega)
        have r1 : L % r.2.2.2.1 < r.2.2.2.1 := Int.emod_lt_of_pos _ (by omega)
        have el2 : ∀ x, x ∈ b0 ++ [(f, ((k + 1 : Nat) : Int))] → 0 ≤ x.1 ∧ x.1 ≤ x.2 ∧ x.2 ≤ ((k + 1 : Nat) : Int) := by
          intro x hx
          rcases List.mem_append.1 hx with h | h
          · have := hel x h
            exact ⟨this.1, this.2.1, by omega⟩
          · rw [List.mem_singleton] at h
            subst h
            exact ⟨hf, by simp only; omega, by simp only; omega⟩
        have eL : ((k + 1 : Nat) : Int) - f = L + 1 := by omega
        have cn : cnt r.2.2.2.1 (b0 ++ [(f, ((k + 1 : Nat) : Int))]) = cnt r.2.2.2.1 b0 + (L + 1) / r.2.2.2.1 := by
          rw [cnt_app, cnt, cnt, ← eL]
          simp
        rw [hrn, wi (x := L % r.2.2.2.1 + 1) (by omega) (by omega)]
        by_cases g : L % r.2.2.2.1 + 1 = r.2.2.2.1
        · rw [if_pos (by rw [eq_t]; exact g)]
          obtain ⟨g1, g2⟩ := d1 g
          exact ih (k + 1) _ (c + 1) 0 (by omega) (by omega) ⟨by simp; omega, el2, by rw [cn, g1, hc]; omega, by omega, .inr ⟨b0, f, _, rfl, .inl ⟨rfl, by rw [eL, g2]⟩⟩⟩
        · rw [if_neg (by rw [eq_t]; exact g)]
          obtain ⟨g1, g2⟩ := d2 g
          exact ih (k + 1) _ c (L % r.2.2.2.1 + 1) (by omega) (by omega) ⟨by simp; omega, el2, by rw [cn, g1, hc], by omega, .inr ⟨b0, f, _, rfl, .inl ⟨rfl, by rw [eL, g2]⟩⟩⟩
      -- a new span
      have fresh : rn = 0 → ∃ b' c' r', Inv r.2.2.2.1 t.length b' c' r' ∧ (if (b.length + 1) * 16 ≤ 140737488355328 then window_Of.p6 t t.length ((k + 1 : Nat) : Int) (b ++ [((k : Int), ((k + 1 : Nat) : Int))]) else none) = some (b', 0) ∧ (if (IntKind.i64.wrap (rn + 1) == r.2.2.2.1) = true then spyref2_RoomOf.p5 (c + 1) 0 t t.length ((k + 1 : Nat) : Int) r else spyref2_RoomOf.p5 c (IntKind.i64.wrap (rn + 1)) t t.length ((k + 1 : Nat) : Int) r) = if decide (c' > r.2.2.2.2.1) = true then some r.2.2.2.2.1 else some c' := by
        intro hr0
        rw [if_pos (by omega)]
        exact go b k 0 (by omega) (by omega) (by omega) (by omega) hi.el (by rw [hi.sum]; simp) (by rw [hr0]; simp)
      rcases hi.last with ⟨e, hr0⟩ | ⟨b0, f, q, e, h⟩
      · rw [if_neg (show ¬ decide ((b.length : Int) > 0) = true by rw [e]; decide)]
        exact fresh hr0
      · have bl : b.length = b0.length + 1 := by rw [e]; simp
        have gl : b.getD ((b.length : Int) - 1).toNat (0, 0) = (f, q) := by
          rw [show ((b.length : Int) - 1).toNat = b0.length by omega, e]
          simp
        simp only [if_pos (show decide ((b.length : Int) > 0) = true by rw [dt]; omega), if_pos (show 0 ≤ (b.length : Int) - 1 by omega), if_pos (show (b.length : Int) - 1 < b.length by omega), gl]
        rcases h with ⟨hq, hr⟩ | ⟨hq, hr⟩
        · rw [if_pos (by rw [eq_t]; exact hq)]
          have es : b.set ((b.length : Int) - 1).toNat (f, ((k + 1 : Nat) : Int)) = b0 ++ [(f, ((k + 1 : Nat) : Int))] := by
            rw [show ((b.length : Int) - 1).toNat = b0.length by omega, e]
            simp
          rw [es]
          have fq := hi.el (f, q) (by rw [e]; simp)
          simp only at fq
          refine go b0 f (k - f) fq.1 (by omega) (by omega) (by omega) (fun x hx => hi.el x (by rw [e]; simp [hx])) ?_ hr
          rw [hi.sum, e, cnt_app, cnt, cnt, hq]
          simp
        · rw [if_neg (by rw [eq_t]; omega)]
          exact fresh hr
theorem room_same (n : Night) (r : Req) : Same (fun _ => True) (plan_Room n r) (spyref2_RoomOf n r) := by
  obtain ⟨e, h1, h2, h3⟩ := both_eq n r
  rw [plan_Room_eq, window_Of_eq, window_Slots_eq, spyref2_RoomOf_eq, h1, h2, bind_some_, bind_some_]
  by_cases he : e = 0
  · subst he
    obtain ⟨ok, rq⟩ := h3 rfl
    have hs := ok.slots
    have rl := request_len rq
    obtain ⟨l, l1, l2, l3⟩ := closed_list n r ok.cloud hs.2
    have q := slots_p6 n r l (by omega) l3 _ 0 (List.replicate n.2.2.2.2.1.toNat (0 : Int)) rfl (by omega) (by simp; omega) (fun j h => absurd h (by omega))
    have el : ((List.replicate n.2.2.2.2.1.toNat (0 : Int)).length : Int) = (l.length : Int) := by simp; omega
    obtain ⟨b, c, rn, hi, b1, b2⟩ := room_p5 r rl.1 rl.2.1 l (by omega) _ 0 [] 0 0 rfl (by omega) ⟨by simp, by simp, rfl, by omega, .inl ⟨rfl, rfl⟩⟩
    rw [show ((0 : Nat) : Int) = 0 from rfl] at q b1 b2
    have z0 : ¬ ((0 : Int) != 0) = true := by decide
    rw [if_neg z0, if_neg z0, if_pos rfl, if_pos (by omega), if_pos (by omega), el, q, bind_some_]
    simp only
    rw [if_neg z0, b1, bind_some_]
    simp only
    rw [if_neg z0, l1, bind_some_, b2]
    have hf := hi.few
    have hc := hi.sum
    have hle := hi.le
    have p6 := room_p6 r rl.1 b (by omega) (fun x hx => by have := hi.el x hx; omega) (by omega) _ 0 rfl (by omega)
    rw [show ((0 : Nat) : Int) = 0 from rfl, List.take_zero, show cnt r.2.2.2.1 [] = 0 from rfl] at p6
    rw [p6, ← hc]
    by_cases g : c > r.2.2.2.2.1
    · rw [if_pos (by omega), if_pos (by rw [dt]; exact g)]
      exact .mk _ trivial
    · rw [if_neg (by omega), if_neg (by rw [dt]; exact g)]
      exact .mk _ trivial
  · rw [if_pos (by rw [ne_t]; exact he), if_pos (by rw [ne_t]; exact he)]
    simp only [bind_some_]
    rw [if_pos (by rw [ne_t]; exact he), bind_some_, if_pos (by rw [ne_t]; exact he)]
    exact .mk _ trivial
theorem plans_ok : spylaw2_plans = some true := callL_some.2 ⟨400, by kernel_rfl⟩
theorem PlanWorths : ∀ (x0 : (Int × Int) × (Int × Int × Int × Int) × Int × Int × Int × (Int × Int × Int) × (Int × Int × Int) × Int × List Int) (x1 : (List (ByteArray × Int)) × List (Int × Int × (Int × Int × Int) × Int × Int × Int × Int × Int × Int × Int × Int)) (x2 : List (Int × Int × Int × Int)) (x3 : Int × Int × (Int × Int × Int) × Int × Int × Int × Int × Int × Int × Int × Int), goodT Tryz.prog (.prod (.prod (.int .i64) (.int .i64)) (.prod (.prod (.int .i64) (.prod (.int .i64) (.prod (.int .i64) (.int .i64)))) (.prod (.int .i64) (.prod (.int .i64) (.prod (.int .i64) (.prod (.prod (.int .i64) (.prod (.int .i64) (.int .i64))) (.prod (.prod (.int .i64) (.prod (.int .i64) (.int .i64))) (.prod (.int .i64) (.list false 3 (.int .i64)))))))))) x0 → goodT Tryz.prog (.prod (.list false 137 (.prod .str (.int .i64))) (.list false 37 (.prod (.int .i64) (.prod (.int .i64) (.prod (.prod (.int .i64) (.prod (.int .i64) (.int .i64))) (.prod (.int .i64) (.prod (.int .i64) (.prod (.int .i64) (.prod (.int .i64) (.prod (.int .i64) (.prod (.int .i64) (.prod (.int .i64) (.int .i64))))))))))))) x1 → goodT Tryz.prog (.list false 88 (.prod (.int .i64) (.prod (.int .i64) (.prod (.int .i64) (.int .i64))))) x2 → goodT Tryz.prog (.prod (.int .i64) (.prod (.int .i64) (.prod (.prod (.int .i64) (.prod (.int .i64) (.int .i64))) (.prod (.int .i64) (.prod (.int .i64) (.prod (.int .i64) (.prod (.int .i64) (.prod (.int .i64) (.prod (.int .i64) (.prod (.int .i64) (.int .i64))))))))))) x3 → spylaw2_PlanWorths x0 x1 x2 x3 = some true := by
  intro n p l r hn hp hl hr
  obtain ⟨a, a1, a2, _⟩ := worth_same p l hl.1
  obtain ⟨b, b1, b2, _⟩ := room_same n r
  rw [spylaw2_PlanWorths_eq, plans_ok, bind_some_, if_pos rfl, a1, a2, bind_some_, bind_some_, if_pos (by simp), b1, b2, bind_some_, bind_some_]
  simp

end Go.Proofs.YtionphbdphbpnaaGreat.Pure
