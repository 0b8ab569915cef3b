/- States that fit, steps, earliest visits. -/
import Derived.Test.YtdcbapdakaaeoaaGreatEA0
import Derived.Test.YtdcbapdakaaeoaaGreatEA1
import Derived.Test.YtdcbapdakaaeoaaGreatEA2
import Derived.Test.YtdcbapdakaaeoaaGreatEA3
import Derived.Test.YtdcbapdakaaeoaaGreatEA4
import Derived.Test.YtdcbapdakaaeoaaGreatEA5
import Derived.Test.YtdcbapdakaaeoaaGreatEA6
import Derived.Test.YtdcbapdakaaeoaaGreatEA7
import Derived.Test.YtdcbapdakaaeoaaGreatPl
import Derived.Test.YtdcbapdakaaeoaaGreatLemAA
import Derived.Test.YtdcbapdakaaeoaaGreatLemAB
import Derived.Test.YtdcbapdakaaeoaaGreatLemAC
namespace Go.Proofs.YtdcbapdakaaeoaaGreat.Pure
set_option linter.unusedVariables false
set_option linter.unusedSimpArgs false
open Go Go.RowKit Go.Proofs.YtdcbapdakaaeoaaGreat.Pv Go.Proofs.YtdcbapdakaaeoaaGreat.Pl Go.Proofs.YtdcbapdakaaeoaaGreat.EA

/-! States that fit: what CheckState asks, and the states after visits. -/
abbrev zreq : Req := (0, 0, (0, 0, 0), 0, 0, 0, 0, 0, 0, 0, 0)
def RowFit (W : Int) (l : List Int) (k : Nat) : Prop := 0 ≤ l.getD k 0 ∧ l.getD k 0 ≤ W ∧ (0 < k → l.getD (k - 1) 0 < l.getD k 0)
instance (W : Int) (l : List Int) (k : Nat) : Decidable (RowFit W l k) := by
  unfold RowFit
  infer_instance
structure Fits (n : Night) (m : Mount_) (p : Progr) (s : State_) : Prop where
  slot : 0 ≤ s.1 ∧ s.1 ≤ n.2.2.2.2.1
  az : m.1.1 ≤ s.2.1.1 ∧ s.2.1.1 ≤ m.1.2.1
  alt : m.2.1.1 ≤ s.2.1.2 ∧ s.2.1.2 ≤ m.2.1.2.1
  len : s.2.2.length = p.2.length
  vis : ∀ j, j < p.2.length → ((s.2.2.getD j []).length : Int) ≤ (p.2.getD j zreq).2.2.2.2.1
  row : ∀ j, j < p.2.length → ∀ k, k < (s.2.2.getD j []).length → RowFit (s.1 - (p.2.getD j zreq).2.2.2.1) (s.2.2.getD j []) k
theorem fit_p11 (p : Progr) (s : State_) (i : Nat) (T : List (List Int)) (t50 t51 : Int) (l : List Int) (hl : l.length ≤ 100) (hi : i < p.2.length) (hw : IntKind.i64.wrap (s.1 - (p.2.getD i zreq).2.2.2.1) = s.1 - (p.2.getD i zreq).2.2.2.1) : ∀ (u k : Nat), l.length - k = u → k ≤ l.length →
    (plan_CheckState.p11 i l T t50 t51 l l.length k p s = some 0 ↔ (∀ j, k ≤ j → j < l.length → RowFit (s.1 - (p.2.getD i zreq).2.2.2.1) l j) ∧ plan_CheckState.p6 T t50 (IntKind.i64.wrap (t51 + 1)) p s = some 0) := by
  intro u
  induction u with
  | zero =>
    intro k hu hk
    rw [plan_CheckState.p11_eq, if_neg (by rw [dt]; omega)]
    exact ⟨fun h => ⟨fun j h1 h2 => absurd h2 (by omega), h⟩, fun h => h.2⟩
  | succ u ih =>
    intro k hu hk
    have step : plan_CheckState.p11 i l T t50 t51 l l.length k p s = if RowFit (s.1 - (p.2.getD i zreq).2.2.2.1) l k then plan_CheckState.p11 i l T t50 t51 l l.length ((k + 1 : Nat) : Int) p s else some 11 := by
      rw [plan_CheckState.p11_eq, if_pos (by rw [dt]; omega), if_pos (by omega), if_pos (by omega)]
      simp only [toNat_nat]
      rw [hw, if_pos (show (0 : Int) ≤ (i : Int) by omega), if_pos (show (i : Int) < (p.2.length : Int) by omega), wi_nat (by omega)]
      by_cases c1 : l.getD k 0 < 0
      · rw [if_neg (show ¬ decide (l.getD k 0 < 0) = false by rw [df]; exact fun q => q c1), if_neg (fun q => absurd q.1 (by omega))]
      rw [if_pos (show decide (l.getD k 0 < 0) = false by rw [df]; exact c1)]
      by_cases c2 : l.getD k 0 > s.1 - (p.2.getD i zreq).2.2.2.1
      · rw [if_neg (show ¬ decide (l.getD k 0 > s.1 - (p.2.getD i zreq).2.2.2.1) = false by rw [df]; exact fun q => q c2), if_neg (fun q => absurd q.2.1 (by omega))]
      rw [if_pos (show decide (l.getD k 0 > s.1 - (p.2.getD i zreq).2.2.2.1) = false by rw [df]; exact c2)]
      by_cases c3 : k = 0
      · subst c3
        rw [if_neg (show ¬ decide (((0 : Nat) : Int) > 0) = true by decide), if_pos ⟨by omega, by omega, fun q => absurd q (by omega)⟩]
      rw [wi (x := (k : Int) - 1) (by omega) (by omega), if_pos (show decide ((k : Int) > 0) = true by rw [dt]; omega), if_pos (by omega), if_pos (by omega), show ((k : Int) - 1).toNat = k - 1 by omega]
      by_cases c4 : l.getD k 0 ≤ l.getD (k - 1) 0
      · rw [if_pos (show decide (l.getD k 0 ≤ l.getD (k - 1) 0) = true by rw [dt]; exact c4), if_neg (fun q => absurd (q.2.2 (by omega)) (by omega))]
      · rw [if_neg (show ¬ decide (l.getD k 0 ≤ l.getD (k - 1) 0) = true by rw [dt]; exact c4), if_pos ⟨by omega, by omega, fun _ => by omega⟩]
    rw [step]
    by_cases c : RowFit (s.1 - (p.2.getD i zreq).2.2.2.1) l k
    · rw [if_pos c, ih (k + 1) (by omega) (by omega)]
      refine ⟨fun h => ⟨fun j h1 h2 => ?_, h.2⟩, fun h => ⟨fun j h1 h2 => h.1 j (by omega) h2, h.2⟩⟩
      by_cases e : j = k
      · subst e; exact c
      · exact h.1 j (by omega) h2
    · rw [if_neg c]
      exact ⟨fun h => absurd (Option.some.inj h) (by decide), fun h => absurd (h.1 k (Nat.le_refl _) (by omega)) c⟩
theorem fit_p6 (p : Progr) (s : State_) (ok : ProgOk p) (hs : s.2.2.length = p.2.length) (h64 : 0 ≤ s.1 ∧ s.1 ≤ 64) : ∀ (u k : Nat), s.2.2.length - k = u → k ≤ s.2.2.length → (plan_CheckState.p6 s.2.2 s.2.2.length k p s = some 0 ↔ ∀ j, k ≤ j → j < p.2.length → ((s.2.2.getD j []).length : Int) ≤ (p.2.getD j zreq).2.2.2.2.1 ∧ ∀ i, i < (s.2.2.getD j []).length → RowFit (s.1 - (p.2.getD j zreq).2.2.2.1) (s.2.2.getD j []) i) := by
  have hr := ok.reqs
  intro u
  induction u with
  | zero =>
    intro k hu hk
    rw [plan_CheckState.p6_eq, if_neg (by rw [dt]; omega)]
    exact ⟨fun _ j h1 h2 => absurd h2 (by omega), fun _ => rfl⟩
  | succ u ih =>
    intro k hu hk
    have rl := req_len ok (j := k) (by omega)
    rw [plan_CheckState.p6_eq, if_pos (by rw [dt]; omega), if_pos (by omega), if_pos (by omega), if_pos (by omega), if_pos (by omega), toNat_nat]
    by_cases c : ((s.2.2.getD k []).length : Int) > (p.2.getD k zreq).2.2.2.2.1
    · rw [if_pos (show decide (((s.2.2.getD k []).length : Int) > (p.2.getD k zreq).2.2.2.2.1) = true by rw [dt]; exact c)]
      exact ⟨fun h => absurd (Option.some.inj h) (by decide), fun h => absurd (h k (Nat.le_refl _) (by omega)).1 (by omega)⟩
    · rw [if_neg (show ¬ decide (((s.2.2.getD k []).length : Int) > (p.2.getD k zreq).2.2.2.2.1) = true by rw [dt]; exact c)]
      have hz : (0, 0, (0, 0, 0), 0, 0, 0, 0, 0, 0, 0, 0) = zreq := rfl
      rw [hz] at rl
      have q := fit_p11 p s k s.2.2 s.2.2.length k (s.2.2.getD k []) (by omega) (by omega) (wi (by omega) (by omega)) _ 0 rfl (by omega)
      rw [show ((0 : Nat) : Int) = 0 from rfl] at q
      rw [q, wi_nat (by omega), ih (k + 1) (by omega) (by omega)]
      refine ⟨fun h j h1 h2 => ?_, fun h => ⟨fun j h1 h2 => (h k (Nat.le_refl _) (by omega)).2 j h2, fun j h1 h2 => h j (by omega) h2⟩⟩
      by_cases e : j = k
      · subst e
        exact ⟨by omega, fun i hi => h.1 i (by omega) hi⟩
      · exact h.2 j (by omega) h2
theorem fits_iff {n : Night} {m : Mount_} {p : Progr} {s : State_} (ok : NightOk n) (pk : ProgOk p) : plan_CheckState n m p s = some 0 ↔ Fits n m p s := by
  have h64 := ok.slots
  rw [plan_CheckState_eq, (in_within ..).1, (in_within ..).1]
  simp only [bind_some_]
  constructor
  · intro h
    obtain ⟨a1, h⟩ := ite_0 (by omega) h
    obtain ⟨a2, h⟩ := ite_0 (by omega) h
    obtain ⟨b1, h⟩ := ite_0 (by omega) h
    obtain ⟨b2, h⟩ := ite_1 (by omega) h
    obtain ⟨a3, h⟩ := ite_1 (by omega) h
    rw [df] at a1 a2
    rw [not_f, dt] at b1
    rw [not_t, df] at b2
    rw [ne_t] at a3
    have e : s.2.2.length = p.2.length := by omega
    have q := (fit_p6 p s pk e (by omega) _ 0 rfl (by omega)).1 h
    exact ⟨by omega, b1, by omega, e, fun j hj => (q j (by omega) hj).1, fun j hj => (q j (by omega) hj).2⟩
  · intro h
    have hs := h.slot
    have ha := h.az
    have hb := h.alt
    have hl := h.len
    rw [if_pos (show decide (s.1 < 0) = false by rw [df]; omega), if_pos (show decide (s.1 > n.2.2.2.2.1) = false by rw [df]; omega), if_pos (by rw [not_f, dt]; exact ha), if_neg (by rw [not_t, df]; exact fun q => q hb), if_neg (by rw [ne_t]; omega)]
    exact (fit_p6 p s pk hl (by omega) _ 0 rfl (by omega)).2 (fun j _ hj => ⟨h.vis j hj, h.row j hj⟩)
theorem Fits.ok {n : Night} {m : Mount_} {p : Progr} {s : State_} (h : Fits n m p s) : StOk n p s := ⟨h.slot, h.len, h.vis⟩
/-- A later slot, another pose. -/
theorem Fits.moved {n : Night} {m : Mount_} {p : Progr} {s : State_} (h : Fits n m p s) {t : Int} (h1 : s.1 ≤ t) (h2 : t ≤ n.2.2.2.2.1) {a : Int × Int} (ha : m.1.1 ≤ a.1 ∧ a.1 ≤ m.1.2.1) (hb : m.2.1.1 ≤ a.2 ∧ a.2 ≤ m.2.1.2.1) : Fits n m p (t, a, s.2.2) := by
  have hs := h.slot
  refine ⟨⟨?_, h2⟩, ha, hb, h.len, h.vis, fun j hj k hk => ?_⟩
  · show 0 ≤ t
    omega
  · obtain ⟨r1, r2, r3⟩ := h.row j hj k hk
    refine ⟨r1, ?_, r3⟩
    show (s.2.2.getD j []).getD k 0 ≤ t - (p.2.getD j zreq).2.2.2.1
    omega
/-- What a visit of request i turns. -/
structure Grown (n : Night) (m : Mount_) (p : Progr) (s q : State_) (i : Nat) : Prop where
  hi : i < p.2.length
  lo : s.1 + (p.2.getD i zreq).2.2.2.1 ≤ q.1
  hi_ : q.1 ≤ n.2.2.2.2.1
  full : ((s.2.2.getD i []).length : Int) < (p.2.getD i zreq).2.2.2.2.1
  starts : q.2.2 = s.2.2.set i (s.2.2.getD i [] ++ [q.1 - (p.2.getD i zreq).2.2.2.1])
  az : m.1.1 ≤ q.2.1.1 ∧ q.2.1.1 ≤ m.1.2.1
  alt : m.2.1.1 ≤ q.2.1.2 ∧ q.2.1.2 ≤ m.2.1.2.1
theorem Grown.fits {n : Night} {m : Mount_} {p : Progr} {s q : State_} {i : Nat} (g : Grown n m p s q i) (pk : ProgOk p) (h : Fits n m p s) : Fits n m p q := by
  have hs := h.slot
  have hl := h.len
  have hi := g.hi
  have g1 := g.lo
  have g2 := g.hi_
  have rl := req_len pk hi
  have hz : (0, 0, (0, 0, 0), 0, 0, 0, 0, 0, 0, 0, 0) = zreq := rfl
  rw [hz] at rl
  refine ⟨by omega, g.az, g.alt, by rw [g.starts]; simpa using hl, fun j hj => ?_, fun j hj k hk => ?_⟩
  · rw [g.starts]
    by_cases e : i = j
    · subst e
      have := g.full
      rw [getD_set_same _ (by omega), List.length_append, List.length_singleton]
      omega
    · rw [getD_set_ne _ e]
      exact h.vis j hj
  · rw [g.starts] at hk ⊢
    by_cases e : i = j
    · subst e
      rw [getD_set_same _ (by omega)] at hk ⊢
      rw [List.length_append, List.length_singleton] at hk
      have old : ∀ k, k < (s.2.2.getD i []).length → RowFit (s.1 - (p.2.getD i zreq).2.2.2.1) (s.2.2.getD i []) k := h.row i hj
      rcases Nat.lt_or_ge k (s.2.2.getD i []).length with c | c
      · obtain ⟨r1, r2, r3⟩ := old k c
        refine ⟨?_, ?_, fun z => ?_⟩
        · rw [getD_app _ _ _ (by omega), if_neg (by omega)]; exact r1
        · rw [getD_app _ _ _ (by omega), if_neg (by omega)]; omega
        · rw [getD_app _ _ _ (by omega), if_neg (by omega), getD_app _ _ _ (by omega), if_neg (by omega)]; exact r3 z
      · obtain rfl : k = (s.2.2.getD i []).length := by omega
        refine ⟨?_, ?_, fun z => ?_⟩
        · rw [getD_app _ _ _ (by omega), if_pos rfl]; omega
        · rw [getD_app _ _ _ (by omega), if_pos rfl]; omega
        · obtain ⟨r1, r2, r3⟩ := old ((s.2.2.getD i []).length - 1) (by omega)
          rw [getD_app _ _ _ (by omega), if_neg (by omega), getD_app _ _ _ (by omega), if_pos rfl]
          omega
    · rw [getD_set_ne _ e] at hk ⊢
      obtain ⟨r1, r2, r3⟩ := h.row j hj k hk
      exact ⟨r1, by omega, r3⟩
theorem after_val {n : Night} {m : Mount_} {p : Progr} {cl : List (List Int)} (pk : ProgOk p) {s : State_} (st : StOk n p s) (i : Nat) (hi : i < p.2.length) (a : Int) (f t : Int × Int) : spyref2_Table_After (n, m, p, cl) s ((i : Int), a, f, t) = some (IntKind.i64.wrap (a + (p.2.getD i zreq).2.2.2.1), t, s.2.2.set i (s.2.2.getD i [] ++ [a])) := by
  have hr := pk.reqs
  have hl := st.len
  have hv : ∀ j, j < p.2.length → (s.2.2.getD j []).length ≤ 4 := fun j hj => by
    have := st.vis j hj
    have := req_len pk hj
    omega
  rw [spyref2_Table_After_eq]
  simp only
  rw [if_pos (by omega), if_pos (by omega), toNat_nat]
  exact after_p3 pk s hl hv i ((i : Int), a, f, t) rfl _ _ _ _ _ 0 rfl (by omega)
theorem bind_inv {α β : Type} {x : Option α} {f : α → Option β} {b : β} (h : x.bind f = some b) : ∃ a, x = some a ∧ f a = some b := by
  cases x with
  | none => cases h
  | some a => exact ⟨a, rfl, h⟩
theorem ite_z {α : Type} {c : Prop} [Decidable c] {a : Option (α × Int)} {q : α} {x : α} {k : Int} (hk : k ≠ 0) (h : (if c then some (x, k) else a) = some (q, 0)) : ¬ c ∧ a = some (q, 0) := by
  by_cases z : c
  · rw [if_pos z] at h
    cases h
    exact absurd rfl hk
  · rw [if_neg z] at h
    exact ⟨z, h⟩
theorem ite_n {β : Type} {c : Prop} [Decidable c] {a : Option β} {q : β} (h : (if c then a else none) = some q) : c ∧ a = some q := by
  by_cases z : c
  · rw [if_pos z] at h
    exact ⟨z, h⟩
  · rw [if_neg z] at h
    cases h
theorem ite_y {α : Type} {c : Prop} [Decidable c] {a : Option (α × Int)} {q : α} {x : α} {k : Int} (hk : k ≠ 0) (h : (if c then a else some (x, k)) = some (q, 0)) : c ∧ a = some (q, 0) := by
  by_cases z : c
  · rw [if_pos z] at h
    exact ⟨z, h⟩
  · rw [if_neg z] at h
    cases h
    exact absurd rfl hk
theorem visit_grown {n : Night} {m : Mount_} {p : Progr} {cl : List (List Int)} (hn : prop_CheckNight n = some 0) (hm : slew_CheckMount m = some 0) (ok : NightOk n) (mk : MtOk m) (pk : ProgOk p) {s : State_} (st : StOk n p s) {v : Int × Int × Int × Int} {q : State_} (h : spyref2_Table_Visit (n, m, p, cl) s v = some (q, 0)) : ∃ i, spyref2_IndexOf p v.1 = some (i : Nat) ∧ Grown n m p s q i ∧ q.1 = v.2.2.1 + v.2.2.2 := by
  have hr := pk.reqs
  have h64 := ok.slots
  have hl := st.len
  have hslot := st.slot
  rw [spyref2_Table_Visit_eq] at h
  simp only at h
  rcases index_of p v.1 hr with ⟨h1, h2⟩ | ⟨j, hj, h1, h2⟩
  · rw [h1, bind_some_, if_pos (by decide)] at h
    cases h
  · have rl := req_len pk hj
    have hrf := req_fault pk hj
    have hvis := st.vis j hj
    refine ⟨j, h1, ?_⟩
    rw [h1, bind_some_, if_neg (by rw [dt]; omega)] at h
    simp only [toNat_nat] at h
    obtain ⟨_, h⟩ := ite_n h
    obtain ⟨_, h⟩ := ite_n h
    obtain ⟨_, h⟩ := ite_n h
    obtain ⟨_, h⟩ := ite_n h
    obtain ⟨c1, h⟩ := ite_z (by decide) h
    rw [ne_t] at c1
    rw [in_val, bind_some_] at h
    obtain ⟨c2, h⟩ := ite_y (by decide) h
    rw [not_f, dt, wi (by omega) (by omega)] at c2
    rw [in_val, bind_some_] at h
    obtain ⟨c3, h⟩ := ite_z (by decide) h
    obtain ⟨c4, h⟩ := ite_z (by decide) h
    rw [eq_t] at c4
    have key : spyref2_Table_Visit.p13 (j : Int) (n, m, p, cl) s v (0, (0, 0), []) (p.2.getD j zreq) = some (q, 0) := by
      by_cases z : decide (((s.2.2.getD j []).length : Int) > 0) = true
      · rw [if_pos z] at h
        obtain ⟨_, h⟩ := ite_n h
        obtain ⟨_, h⟩ := ite_n h
        rw [in_val, bind_some_] at h
        exact (ite_z (by decide) h).2
      · rw [if_neg z] at h
        exact h
    clear h
    rw [spyref2_Table_Visit.p13_eq] at key
    simp only at key
    obtain ⟨o, _, key⟩ := bind_inv key
    obtain ⟨_, key⟩ := ite_z (by decide) key
    obtain ⟨a, _, key⟩ := bind_inv key
    obtain ⟨_, key⟩ := ite_z (by decide) key
    obtain ⟨x, _, key⟩ := bind_inv key
    obtain ⟨_, key⟩ := ite_z (by decide) key
    obtain ⟨y, _, key⟩ := bind_inv key
    obtain ⟨_, key⟩ := ite_z (by decide) key
    obtain ⟨t, t1, t2⟩ := track_def m n x.1 (p.2.getD j zreq).2.2.1 v.2.2.1 (IntKind.i64.wrap (v.2.2.1 + v.2.2.2)) hm hn ok mk (request_dir hrf)
    rw [t1, bind_some_] at key
    obtain ⟨z3, key⟩ := ite_z (by decide) key
    rw [ne_t] at z3
    have z4 : t.2 = 0 := by omega
    rw [after_val pk st j hj, bind_some_] at key
    simp only [zreq] at key
    rw [wi (by omega) (by omega)] at key
    have e := congrArg Prod.fst (Option.some.inj key)
    simp only at e
    subst e
    refine ⟨⟨hj, ?_, ?_, ?_, ?_, (t2 z4).1, (t2 z4).2⟩, by simp only; omega⟩
    · simp only [zreq]; omega
    · simp only [zreq]; omega
    · simp only [zreq]; omega
    · simp only [zreq]
      rw [show v.2.2.1 + (p.2.getD j (0, 0, (0, 0, 0), 0, 0, 0, 0, 0, 0, 0, 0)).2.2.2.1 - (p.2.getD j (0, 0, (0, 0, 0), 0, 0, 0, 0, 0, 0, 0, 0)).2.2.2.1 = v.2.2.1 by omega]
/-! The earliest visit. -/
/-- A visit that would end behind the night. -/
theorem visit_late {n : Night} {m : Mount_} {p : Progr} {cl : List (List Int)} {aim : List (List (Int × Int))} (hn : prop_CheckNight n = some 0) (hm : slew_CheckMount m = some 0) (ok : NightOk n) (mk : MtOk m) (pk : ProgOk p) (dk : DeskOk n p cl aim) {s : State_} (st : StOk n p s) (v : Int × Int × Int × Int) (h : v.2.2.1 > n.2.2.2.2.1 - v.2.2.2) : ∃ e, spyref2_Table_Visit (n, m, p, cl) s v = some ((0, (0, 0), []), e) ∧ e ≠ 0 := by
  have hr := pk.reqs
  have h64 := ok.slots
  have hl := st.len
  rw [spyref2_Table_Visit_eq]
  simp only
  rcases index_of p v.1 hr with ⟨h1, h2⟩ | ⟨j, hj, h1, h2⟩
  · rw [h1, bind_some_, if_pos (by decide)]
    exact ⟨8, rfl, by decide⟩
  · have rl := req_len pk hj
    rw [h1, bind_some_, if_neg (by rw [dt]; omega)]
    simp only [toNat_nat]
    rw [if_pos (show (0 : Int) ≤ (j : Int) by omega), if_pos (show (j : Int) < (p.2.length : Int) by omega), if_pos (show (0 : Int) ≤ (j : Int) by omega), if_pos (show (j : Int) < (s.2.2.length : Int) by omega)]
    obtain ⟨r, hR⟩ : ∃ r, p.2.getD j (0, 0, (0, 0, 0), 0, 0, 0, 0, 0, 0, 0, 0) = r := ⟨_, rfl⟩
    rw [hR] at rl ⊢
    simp only [in_val, bind_some_]
    by_cases c1 : v.2.2.2 = r.2.2.2.1
    · rw [if_neg (show ¬ (v.2.2.2 != r.2.2.2.1) = true by rw [ne_t]; exact fun q => q c1), wi (x := n.2.2.2.2.1 - r.2.2.2.1) (by omega) (by omega)]
      have hb : decide (s.1 ≤ v.2.2.1 ∧ v.2.2.1 ≤ n.2.2.2.2.1 - r.2.2.2.1) = false := by rw [df]; omega
      rw [hb]
      first
        | (rw [if_pos (by decide)]; exact ⟨6, rfl, by decide⟩)
        | (rw [if_neg (by decide)]; exact ⟨6, rfl, by decide⟩)
        | (simp only [Bool.not_false, if_true, Bool.false_eq_true, if_false, Bool.true_eq_false]; exact ⟨_, rfl, by decide⟩)
    · rw [if_pos (show (v.2.2.2 != r.2.2.2.1) = true by rw [ne_t]; exact c1)]
      exact ⟨3, rfl, by decide⟩
/-! Steps and earliest visits between states that fit. -/
theorem step_fit {n : Night} {m : Mount_} {p : Progr} {cl : List (List Int)} {aim : List (List (Int × Int))} (hn : prop_CheckNight n = some 0) (hm : slew_CheckMount m = some 0) (ok : NightOk n) (mk : MtOk m) (pk : ProgOk p) (dk : DeskOk n p cl aim) {s : State_} (hs : Fits n m p s) (v : Int × Int × Int × Int) :
    ∃ q e, plan_Desk_Step (n, m, p, cl, aim) s v = some (q, e) ∧ spyref2_Table_Visit (n, m, p, cl) s v = some (q, e) ∧ (e ≠ 0 → q = (0, (0, 0), [])) ∧ (e = 0 → Fits n m p q ∧ ∃ i, spyref2_IndexOf p v.1 = some (i : Nat) ∧ Grown n m p s q i ∧ q.1 = v.2.2.1 + v.2.2.2) := by
  have st := hs.ok
  obtain ⟨c, e, q, c1, c2, c3, c4⟩ := visit_same hn hm ok mk pk dk st v
  rw [plan_Desk_Step_eq, desk_check ok, (fits_iff ok pk).2 hs, bind_some_, if_neg (by decide), c1, bind_some_]
  by_cases he : e = 0
  · subst he
    obtain ⟨x, x1, x2⟩ := c4 rfl
    rw [if_neg (show ¬ ((0 : Int) != 0) = true by decide), st_clone pk st, bind_some_, x1, bind_some_]
    obtain ⟨i, i1, g, g1⟩ := visit_grown hn hm ok mk pk st c2
    exact ⟨q, 0, rfl, c2, fun k => absurd rfl k, fun _ => ⟨g.fits pk hs, i, i1, g, g1⟩⟩
  · rw [if_pos (show (e != 0) = true by rw [ne_t]; exact he)]
    have hq := c3 he
    subst hq
    exact ⟨_, e, rfl, c2, fun _ => rfl, fun k => absurd k he⟩
theorem index_self {p : Progr} (pk : ProgOk p) {i : Nat} (hi : i < p.2.length) : spyref2_IndexOf p (p.2.getD i zreq).1 = some (i : Int) := by
  rcases index_of p (p.2.getD i zreq).1 pk.reqs with ⟨h1, h2⟩ | ⟨j, hj, h1, h2⟩
  · exact absurd (List.mem_map.2 ⟨p.2[i], List.getElem_mem .., by rw [getD_nat _ _ hi]⟩) h2
  · by_cases e : j = i
    · subst e; exact h1
    · refine absurd ?_ (id_uniq pk hj hi e)
      rw [getD_nat _ _ hj, h2]
/-- The beginning of a night. -/
theorem first_fits {n : Night} {m : Mount_} {p : Progr} (ok : NightOk n) (pk : ProgOk p) (hp : (m.1.1 ≤ m.2.2.1 ∧ m.2.2.1 ≤ m.1.2.1) ∧ (m.2.1.1 ≤ m.2.2.2 ∧ m.2.2.2 ≤ m.2.1.2.1)) : Fits n m p (0, (m.2.2.1, m.2.2.2), List.replicate p.2.length []) := by
  have h64 := ok.slots
  have e : ∀ j, (List.replicate p.2.length ([] : List Int)).getD j [] = [] := fun j => by
    rw [List.getD_eq_getElem?_getD, List.getElem?_replicate]
    split <;> rfl
  refine ⟨⟨Int.le_refl _, by simp only; omega⟩, hp.1, hp.2, by simp, fun j hj => ?_, fun j hj k hk => ?_⟩
  · have := req_len pk hj
    simp only [e, List.length_nil, zreq]
    omega
  · simp only [e, List.length_nil] at hk
    omega

end Go.Proofs.YtdcbapdakaaeoaaGreat.Pure
