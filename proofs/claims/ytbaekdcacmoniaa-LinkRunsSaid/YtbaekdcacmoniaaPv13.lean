/- One operation that is no call of a function: the machine's and the model's. -/
import Derived.Test.YtbaekdcacmoniaaPvO
namespace Go.Proofs.Ytbaekdcacmoniaa.Pv
open Go Go.RowKit

section
variable {R : Type} {r : R} {ρ : Nat → Value} {own : Nat → Prop} {W0 : World} {c : Cx W0} {w w1 : World} {s : St} {a : Act} {P : Program} {S : List (FuncId × FSig)} {callT : (f : FuncId) → (g : FSig) → List PV → Option g.res.den}
theorem ofBool_some {x : PV} {K : Bool → Option R} (h : ofBool x K = some r) : ∃ b, x = .bool b ∧ K b = some r := by
  unfold ofBool at h
  split at h
  · exact ⟨_, rfl, h⟩
  · cases h
theorem builtin_does (hr : RelX ρ own c s a w) {b : Builtin} {ts : Array TypeId} {ty : TypeId} {cs : Array Bool} {d : Nat} {xs : Array Operand} {K : PV → St → Option R} (h : evBuiltin P s d b ts.toList (xs.toList.map s.ev) K = some r) :
    Does P c a w (builtin b ts ty cs (xs.map a.eval)) K r := by
  have one : ∀ {p : PV}, xs.toList.map s.ev = [p] → ∃ x, xs = #[x] ∧ p = s.ev x := by
    intro p e
    obtain ⟨xs⟩ := xs
    cases xs with
    | nil => cases e
    | cons x l =>
      cases l with
      | nil => cases e; exact ⟨x, rfl, rfl⟩
      | cons y l => cases e
  have two : ∀ {p q : PV}, xs.toList.map s.ev = [p, q] → ∃ x y, xs = #[x, y] ∧ p = s.ev x ∧ q = s.ev y := by
    intro p q e
    obtain ⟨xs⟩ := xs
    cases xs with
    | nil => cases e
    | cons x l =>
      cases l with
      | nil => cases e
      | cons y l =>
        cases l with
        | nil => cases e; exact ⟨x, y, rfl, rfl, rfl⟩
        | cons z l => cases e
  have three : ∀ {p q u : PV}, xs.toList.map s.ev = [p, q, u] → ∃ x y z, xs = #[x, y, z] ∧ p = s.ev x ∧ q = s.ev y ∧ u = s.ev z := by
    intro p q u e
    obtain ⟨xs⟩ := xs
    cases xs with
    | nil => cases e
    | cons x l =>
      cases l with
      | nil => cases e
      | cons y l =>
        cases l with
        | nil => cases e
        | cons z l =>
          cases l with
          | nil => cases e; exact ⟨x, y, z, rfl, rfl, rfl, rfl⟩
          | cons z l => cases e
  unfold evBuiltin at h
  split at h
  · rename_i t tl x ht hx
    obtain ⟨xo, rfl, rfl⟩ := one hx
    have hts : ts[0]? = some t := by
      rw [← Array.getElem?_toList, ht]
      rfl
    split at h
    · rename_i n hu hn
      split at h
      · rename_i hs
        obtain ⟨b, e, rfl⟩ := len_str hn hs (hr.ev xo)
        refine Does.value h hr (v := .int .i64 b.size) (by rw [VR]) ?_
        simp [Builtin.len_, hts, e, run_underlying hu, goInt]
      · cases h
    · rename_i e n hu hn
      split at h
      · cases h
      · rename_i hs
        obtain ⟨A, k, e⟩ := len_slice hn hs hr (hr.ev xo)
        refine Does.value h hr (v := .int .i64 n) (by rw [VR]) ?_
        simp [Builtin.len_, hts, e, run_underlying hu, goInt]
    · cases h
  · rename_i t t' x y ht hxy
    obtain ⟨xo, yo, rfl, rfl, rfl⟩ := two hxy
    split at h
    · rename_i htt
      have : t = t' := by simpa using htt
      subst this
      have hts : ts = #[t, t] := Array.toList_inj.1 (by rw [ht])
      subst hts
      have hx := hr.ev xo
      unfold evAppend at h
      split at h
      · rename_i e τ bb he
        have hb : builtin .append #[t, t] ty cs (#[xo, yo].map a.eval) = (do pure (.value (← Builtin.append_ #[t, t] ty #[a.eval xo, a.eval yo])) : Sem Next) := by simp [builtin]
        rw [hb]
        split at h
        · rename_i ex
          rw [ex, VR] at hx
          rw [hx]
          split at h
          · rename_i m hm
            split at h
            · rename_i hl
              exact does_append_new hr he none hm (hr.ev yo) hl hr h
            · cases h
          · cases h
        · rename_i ex
          rw [ex, VR] at hx
          obtain ⟨A, hx⟩ := hx
          rw [hx]
          split at h
          · rename_i m hm
            split at h
            · rename_i hl
              exact does_append_new hr he A hm (hr.ev yo) hl hr h
            · cases h
          · cases h
        · rename_i id ex
          rw [ex, VR] at hx
          rw [hx.1]
          split at h
          · rename_i l m hl hm
            split at h
            case isFalse => cases h
            rename_i hnd
            split at h
            · rename_i hlim
              unfold contents at hl
              simp only at hl
              split at hl
              · rename_i e' t' l' hlk
                obtain ⟨rfl, rfl, q⟩ := sameRow_eq hl
                have := eq_of_heq q
                subst this
                exact does_append_moved hr (by rw [Bool.and_eq_true] at hnd; simpa using hnd.2) he hlk hm (by rw [Bool.and_eq_true] at hnd; simpa using hnd.1) (hr.ev yo) hlim h
              · cases hl
            · cases h
          · cases h
        · rename_i id i ex
          rw [ex] at hx
          split at h
          · rename_i e0 e' τ' l hlk
            split at h
            · rename_i l0 m hl hm
              split at h
              · rename_i hc
                rw [Bool.and_eq_true] at hc
                split at h
                · rename_i hlim
                  exact does_append_sub hr he hlk hl hm (fun q => by rw [q] at hc; simp at hc) (by simpa using hc.2) hx (hr.ev yo) hlim h
                · cases h
              · cases h
            · cases h
          · cases h
        · cases h
      · cases h
    · rename_i htt
      split at h
      case isFalse => cases h
      rename_i hit
      have hti : ∃ kn, P.underlying t' = some (.int kn) := by
        unfold isIntT at hit
        split at hit
        · rename_i kn hu
          exact ⟨kn, hu⟩
        · cases hit
      obtain ⟨kn, hti⟩ := hti
      have hts : ts = #[t, t'] := Array.toList_inj.1 (by rw [ht])
      subst hts
      unfold evZeros at h
      split at h
      case h_2 => cases h
      rename_i e τ bb kk n he hxn hyn
      split at h
      case h_2 => cases h
      rename_i zp hzp
      split at h
      case h_2 => cases h
      rename_i x0 hx0
      split at h
      case isFalse => cases h
      rename_i hn
      split at h
      case isFalse => cases h
      rename_i hlim
      have hb : builtin .append #[t, t'] ty cs (#[xo, yo].map a.eval) = (do pure (.value (← Builtin.append_ #[t, t'] ty #[a.eval xo, a.eval yo])) : Sem Next) := by simp [builtin]
      rw [hb]
      have hvx := hr.ev xo
      rw [hxn, VR] at hvx
      have hvy := hr.ev yo
      rw [hyn, VR] at hvy
      have hnn : n = (n.toNat : Int) := by omega
      rw [hvx, hvy, hnn]
      exact does_append_zeros hr he hti hzp hx0 kk n.toNat (by omega) hlim h
  · rename_i t _ ht hx
    obtain ⟨xo, rfl, hxo⟩ := one hx
    have hts : ts[0]? = some t := by
      rw [← Array.getElem?_toList, ht]
      rfl
    split at h
    · rename_i e hu
      have hv := hr.ev xo
      rw [← hxo, VR] at hv
      refine Does.value h hr (v := .int .i64 0) (by rw [VR]) ?_
      simp [Builtin.cap_, hts, hv, run_underlying hu, goInt]
    · cases h
  · rename_i t _ ht hx
    obtain ⟨xo, rfl, hxo⟩ := one hx
    have hts : ts[0]? = some t := by
      rw [← Array.getElem?_toList, ht]
      rfl
    split at h
    · rename_i e hu
      have hv := hr.ev xo
      rw [← hxo, VR] at hv
      obtain ⟨A, hv⟩ := hv
      refine Does.value h hr (v := .int .i64 0) (by rw [VR]) ?_
      simp [Builtin.cap_, hts, hv, run_underlying hu, goInt]
    · cases h
  · rename_i k x k' y hxy
    obtain ⟨xo, yo, rfl, e1, e2⟩ := two hxy
    have hx := hr.ev xo
    have hy := hr.ev yo
    rw [← e1, VR] at hx
    rw [← e2, VR] at hy
    refine Does.value h hr (v := .int k (if y < x then y else x)) (by rw [VR]) ?_
    simp [Builtin.min_, hx, hy, Builtin.min2]
  · rename_i k x k' y hxy
    obtain ⟨xo, yo, rfl, e1, e2⟩ := two hxy
    have hx := hr.ev xo
    have hy := hr.ev yo
    rw [← e1, VR] at hx
    rw [← e2, VR] at hy
    refine Does.value h hr (v := .int k (if x < y then y else x)) (by rw [VR]) ?_
    simp [Builtin.max_, hx, hy, Builtin.max2]
  · rename_i k x k' y k'' z hxy
    obtain ⟨xo, yo, zo, rfl, e1, e2, e3⟩ := three hxy
    have hx := hr.ev xo
    have hy := hr.ev yo
    have hz := hr.ev zo
    rw [← e1, VR] at hx
    rw [← e2, VR] at hy
    rw [← e3, VR] at hz
    refine Does.value h hr (v := .int k (if z < (if y < x then y else x) then z else (if y < x then y else x))) (by rw [VR]) ?_
    simp [Builtin.min_, hx, hy, hz, Builtin.min2]
  · rename_i k x k' y k'' z hxy
    obtain ⟨xo, yo, zo, rfl, e1, e2, e3⟩ := three hxy
    have hx := hr.ev xo
    have hy := hr.ev yo
    have hz := hr.ev zo
    rw [← e1, VR] at hx
    rw [← e2, VR] at hy
    rw [← e3, VR] at hz
    refine Does.value h hr (v := .int k (if (if x < y then y else x) < z then z else (if x < y then y else x))) (by rw [VR]) ?_
    simp [Builtin.max_, hx, hy, hz, Builtin.max2]
  · cases h
theorem concT_spec {t : TypeId} (h : concT P t = true) : ∃ d, P.underlying t = some d ∧ ∀ ms, d ≠ .interface ms := by
  unfold concT at h
  split at h
  · cases h
  · cases h
  · rename_i d hd hu
    exact ⟨d, hu, fun ms e => hd ms e⟩
theorem makeIface_run {t : TypeId} (h : concT P t = true) (v : Value) (w : World) : (Instr.makeInterface t v).run P w = .ok (.iface t v) w := by
  obtain ⟨d, hu, hd⟩ := concT_spec h
  unfold Instr.makeInterface
  rw [Sem.run_bind, run_underlying hu, Result.andThen_ok]
  split
  · exact absurd rfl (hd _)
  · rfl
theorem typeAssert_run {t xt : TypeId} (h : concT P t = true) (v : Value) (w : World) (comma : Bool) : (Instr.typeAssert (.iface t v) xt t comma).run P w = .ok (if comma = true then .tuple #[v, .bool true] else v) w := by
  obtain ⟨d, hu, hd⟩ := concT_spec h
  unfold Instr.typeAssert
  simp only [Sem.run_bind, run_underlying hu, Result.andThen_ok]
  cases d with
  | interface ms => exact absurd rfl (hd ms)
  | _ => simp
theorem iface_of {f : Nat} {cs : List PV} {v : Value} (hf : Nat.blt f 1000000 = false) {p : PV} (hcs : cs = [p]) (h : VR ρ own w (.func f cs) v) : ∃ u, v = .iface (f - 1000000) u ∧ VR ρ own w p u := by
  subst hcs
  rw [VR] at h
  obtain ⟨vs, e, h⟩ := h
  rw [VRs] at h
  obtain ⟨u, r, e2, h1, h2⟩ := h
  rw [VRs] at h2
  subst h2
  obtain ⟨l⟩ := vs
  have e2' : l = [u] := e2
  subst e2'
  refine ⟨u, ?_, h1⟩
  rw [e]
  exact funV_iface hf u
theorem iface_to {t : TypeId} {p : PV} {v : Value} (h : VR ρ own w p v) : VR ρ own w (.func (Nat.add 1000000 t) [p]) (.iface t v) := by
  rw [VR]
  refine ⟨#[v], ?_, ?_⟩
  · exact (funV_one v).symm
  · rw [VRs]
    exact ⟨_, _, rfl, h, by rw [VRs]⟩
theorem evOp_does {o : Oper} {K : PV → St → Option R} (hr : RelX ρ own c s a w) (h : evOp P S callT s o K = some r) (hc : ∀ cl x, o.op = .call cl → cl.callee ≠ .value x) (hi : ∀ cl x nm, o.op = .call cl → cl.callee ≠ .invoke x nm) : Does P c a w (execOp a.eval o) K r := by
  unfold evOp at h
  split at h
  · rename_i x ho
    simp only [execOp, ho]
    exact ⟨ρ, own, _, _, s, w, h, hr, hr.ev x, .inl rfl⟩
  · rename_i x ho
    simp only [execOp, ho]
    exact ⟨ρ, own, _, _, s, w, h, hr, hr.ev x, .inl rfl⟩
  · rename_i x y z ho
    obtain ⟨b, e, h⟩ := ofBool_some h
    have hb := hr.ev x
    rw [e, VR] at hb
    simp only [execOp, ho]
    cases b with
    | true => exact ⟨ρ, own, _, _, s, w, h, hr, hr.ev y, .inl (by simp [hb, asBool])⟩
    | false => exact ⟨ρ, own, _, _, s, w, h, hr, hr.ev z, .inl (by simp [hb, asBool])⟩
  · rename_i t ho
    simp only [execOp, ho]
    split at h
    · rename_i d z hd hz
      split at h
      · cases h
      · rename_i hh
        exact does_alloc hr hz (by simpa using hh) h
    · cases h
  · rename_i t x ho
    simp only [execOp, ho]
    split at h
    · cases h
    · rename_i d hd
      split at h
      · rename_i hk
        rw [Bool.and_eq_true] at hk
        exact does_box hr hk.1 (by simpa using hk.2) (hr.ev x) h
      · cases h
  · rename_i t parts ho
    simp only [execOp, ho]
    split at h
    · rename_i v hv
      obtain ⟨u, h1, h2⟩ := run_build_of hr hv
      exact Does.value h hr h2 h1
    · cases h
  · rename_i t n parts ho
    simp only [execOp, ho]
    split at h
    · rename_i d e τ b hd he
      split at h
      · rename_i hn
        rw [Bool.and_eq_true] at hn
        obtain ⟨own', hr', _⟩ := hr.cools (ownIdsL (parts.toList.map fun p => s.ev p.2))
        simp only at h
        split at h
        · rename_i l hl
          exact does_buildSlice hr' he (by simpa using hn.1) (by simpa using hn.2) hl h
        · cases h
      · cases h
    · cases h
  · rename_i t x ho
    simp only [execOp, ho]
    split at h
    · rename_i v hv
      obtain ⟨u, h1, h2⟩ := run_load hv hr (hr.ev x)
      exact Does.value h hr h2 h1
    · cases h
  · rename_i t x y ho
    simp only [execOp, ho]
    split at h
    · rename_i id i ex
      have hx := hr.ev x
      rw [ex] at hx
      exact does_close hr h hx (hr.ev y)
    · unfold stSt at h
      split at h
      · obtain ⟨own', hr', _⟩ := hr.cools (ownIds (s.ev y))
        exact does_store hr' (hr'.ev x) (hr'.ev y) h
      · exact does_store hr (hr.ev x) (hr.ev y) h
  · rename_i t o' ho
    simp only [execOp, ho]
    split at h
    · exact does_makeMap hr h
    · cases h
  · rename_i t x i comma ho
    simp only [execOp, ho]
    obtain ⟨p, v, h1, h2, h3⟩ := run_lookup h hr (hr.ev x) (hr.ev i)
    exact Does.value h1 hr h2 h3
  · rename_i t x i y ho
    simp only [execOp, ho]
    exact does_mapUpdate hr h (hr.ev x) (hr.ev i) (hr.ev y)
  · rename_i x ho
    simp only [execOp, ho]
    have hx := hr.ev x
    split at h
    · rename_i i off e
      rw [e] at hx
      have hx0 := hx
      rw [VR] at hx
      obtain ⟨g, _, e'⟩ := hx
      exact ⟨ρ, own, _, _, s, w, h, hr, hx0, .inl (by rw [e']; rfl)⟩
    · rename_i cs off e
      rw [e] at hx
      have hx0 := hx
      rw [VR] at hx
      obtain ⟨g, vs, t, e', _⟩ := hx
      exact ⟨ρ, own, _, _, s, w, h, hr, hx0, .inl (by rw [e']; rfl)⟩
    · rename_i t y off e
      rw [e] at hx
      have hx0 := hx
      rw [VR] at hx
      obtain ⟨b, u, e', _⟩ := hx
      exact ⟨ρ, own, _, _, s, w, h, hr, hx0, .inl (by rw [e']; rfl)⟩
    · rename_i i z n off e
      rw [e] at hx
      have hx0 := hx
      rw [VR] at hx
      obtain ⟨g, n', k, _, _, e'⟩ := hx
      exact ⟨ρ, own, _, _, s, w, h, hr, hx0, .inl (by rw [e']; rfl)⟩
    · rename_i f cs e
      split at h
      case isFalse => cases h
      rename_i hf
      rw [e] at hx
      have hx0 := hx
      rw [VR] at hx
      obtain ⟨vs, e', _⟩ := hx
      rw [funV_fn hf] at e'
      exact ⟨ρ, own, _, _, s, w, h, hr, hx0, .inl (by rw [e']; rfl)⟩
    · cases h
  · rename_i op t x y t2 ho
    simp only [execOp, ho]
    obtain ⟨p, v, h1, h2, h3⟩ := run_bin (ox := x) (oy := y) h (hr.ev x) (hr.ev y)
    exact Does.value h1 hr h2 h3
  · rename_i op t x ho
    simp only [execOp, ho]
    obtain ⟨p, v, h1, h2, h3⟩ := run_un h (hr.ev x)
    exact Does.value h1 hr h2 h3
  · rename_i src dst x ho
    simp only [execOp, ho]
    obtain ⟨p, v, w', h1, h2, h3, h4, h5⟩ := run_conv h hr (hr.ev x)
    exact Does.value h1 (hr.grow h2 (hr.below.trans h3 (fun _ _ q => q.elim))) h4 h5
  · rename_i f first caps ho
    simp only [execOp, ho]
    split at h
    · rename_i hf
      refine ⟨ρ, own, _, .func (.func f) #[] (caps.map a.eval), s, w, h, hr, ?_, .inl ?_⟩
      · rw [VR]
        exact ⟨_, (funV_fn hf.2 _).symm, by rw [Array.toList_map]; exact hr.evs caps.toList⟩
      · have : first = #[] := Array.eq_empty_of_size_eq_zero hf.1
        subst this
        simp [Instr.makeFunc]
    · cases h
  · rename_i t x ho
    simp only [execOp, ho]
    split at h
    case isFalse => cases h
    rename_i hq
    rw [Bool.and_eq_true] at hq
    exact Does.value h hr (iface_to (hr.ev x)) (makeIface_run hq.1 _ _)
  · rename_i x xt t comma ho
    simp only [execOp, ho]
    split at h
    case h_2 => cases h
    rename_i f p e
    split at h
    case isFalse => cases h
    rename_i hq
    rw [Bool.and_eq_true] at hq
    have hf : f = 1000000 + t := by simpa using hq.2
    subst hf
    have hx := hr.ev x
    rw [e] at hx
    obtain ⟨u, e', hu⟩ := iface_of (f := 1000000 + t) (Bool.eq_false_iff.2 fun q => by simp at q; omega) rfl hx
    rw [Nat.add_sub_cancel_left] at e'
    rw [e']
    have hrun := typeAssert_run (xt := xt) hq.1 u w comma
    split at h
    · rename_i hcm
      rw [hcm, if_pos rfl] at hrun
      rw [hcm]
      exact Does.value h hr (by rw [VR]; exact ⟨_, rfl, by rw [VRs]; exact ⟨_, _, rfl, hu, by rw [VRs]; exact ⟨_, _, rfl, by rw [VR], by rw [VRs]⟩⟩⟩) hrun
    · rename_i hcm
      rw [if_neg hcm] at hrun
      exact Does.value h hr hu hrun
  · rename_i t l k ho
    simp only [execOp, ho]
    split at h
    · rename_i d hd
      exact does_make hr h (hr.ev l) (hr.ev k)
    · cases h
  · rename_i t x lo hi ho
    simp only [execOp, ho]
    exact does_slice hr h (hr.ev x)
  · rename_i t x hi mx ho
    simp only [execOp, ho]
    split at h
    · rename_i e k i k' j hu eh em
      split at h
      case isFalse => cases h
      rename_i hszT
      split at h
      · rename_i hi0
        subst hi0
        split at h
        · rename_i hj0
          subst hj0
          have hh := hr.ev hi
          have hm := hr.ev mx
          rw [eh, VR] at hh
          rw [em, VR] at hm
          have hx : ∃ A n cap, a.eval x = .slice A n cap ∧ K .empt s = some r ∧ (A = none → cap = 0) := by
            unfold evEmpt at h
            have hx := hr.ev x
            split at h
            · rename_i e
              rw [e, VR] at hx
              exact ⟨_, _, _, hx, h, fun _ => rfl⟩
            · rename_i e
              rw [e, VR] at hx
              obtain ⟨A, hx⟩ := hx
              exact ⟨_, _, _, hx, h, fun _ => rfl⟩
            · rename_i e
              rw [e, VR] at hx
              obtain ⟨A, k, hx, _, _, q, _⟩ := RdC_list hx
              exact ⟨_, _, _, hx, h, q⟩
            · rename_i id e
              split at h
              · rename_i hl
                rw [e, VR] at hx
                rcases hr.sto id _ hl with ⟨⟨A, e1⟩, e2⟩ | ⟨g, k, vs, e1, _⟩
                · exact ⟨_, _, _, hx.1.trans e1, h, fun _ => rfl⟩
                · exact ⟨_, _, _, hx.1.trans e1, h, fun q => by cases q⟩
              · cases h
            · cases h
          obtain ⟨A, n, cap, ex, h, _⟩ := hx
          have hsz : ∃ sz, (sizeOf e).run P w = .ok sz w := by
            obtain ⟨sz, hsz⟩ := Option.isSome_iff_exists.1 hszT
            exact ⟨sz, run_sizeOf_of hsz⟩
          obtain ⟨sz, hsz⟩ := hsz
          refine ⟨ρ, own, .empt, .slice A 0 0, s, w, h, hr, by rw [VR]; exact ⟨A, rfl⟩, .inl ?_⟩
          simp [ex, hh, hm, Instr.sliceAt, Instr.slice, run_underlying hu, Instr.sliceBounds, Instr.sliceBound, asIntOf, hsz]
        · cases h
      · cases h
    · cases h
  · rename_i st x f ho
    simp only [execOp, ho]
    split at h
    · rename_i fd hfd
      have hx := hr.ev x
      split at h
      · rename_i i off e
        rw [e, VR] at hx
        obtain ⟨g, hg, e'⟩ := hx
        have := run_fieldAt_of (P := P) (w := w) hfd ⟨g, off, none⟩
        rw [← e', Addr.add_lit] at this
        exact Does.value h hr (by rw [VR]; exact ⟨g, hg, rfl⟩) this
      · rename_i cs off e
        rw [e, VR] at hx
        obtain ⟨g, vs, t, e', q⟩ := hx
        have := run_fieldAt_of (P := P) (w := w) hfd ⟨g, off, none⟩
        rw [← e', Addr.add_lit] at this
        exact Does.value h hr (by rw [VR]; exact ⟨g, vs, t, rfl, q⟩) this
      · rename_i t y off e
        rw [e, VR] at hx
        obtain ⟨b, u, e', q⟩ := hx
        have := run_fieldAt_of (P := P) (w := w) hfd (b.add off)
        rw [← e', Addr.add_add] at this
        exact Does.value h hr (by rw [VR]; exact ⟨b, u, rfl, q⟩) this
      · rename_i i z n off e
        rw [e, VR] at hx
        obtain ⟨g, n', k, q1, q2, e'⟩ := hx
        have := run_fieldAt_of (P := P) (w := w) hfd ⟨g, n.toNat * z + off, none⟩
        rw [← e', Addr.add_lit] at this
        exact Does.value h hr (by rw [VR]; exact ⟨g, n', k, q1, q2, by rw [Nat.add_assoc]⟩) this
      · cases h
    · cases h
  · rename_i st x f ho
    simp only [execOp, ho]
    split at h
    · rename_i fd cs hfd e
      split at h
      · rename_i v hv
        have hx := hr.ev x
        rw [e, VR] at hx
        obtain ⟨vs, e', hvs⟩ := hx
        obtain ⟨u, h1, h2⟩ := run_field_of hfd hv hvs
        rw [e']
        exact Does.value h hr h2 h1
      · cases h
    · cases h
  · rename_i t x i ho
    simp only [execOp, ho]
    obtain ⟨p, u, h1, h2, h3⟩ := run_indexAddr h hr (hr.ev x) (hr.ev i)
    exact Does.value h1 hr h2 h3
  · rename_i t x i ho
    simp only [execOp, ho]
    obtain ⟨p, u, h1, h2, h3⟩ := run_index h (hr.ev x) (hr.ev i)
    exact Does.value h1 hr h2 h3
  · rename_i x i ho
    simp only [execOp, ho]
    split at h
    · rename_i vs e
      split at h
      · rename_i v hv
        have hx := hr.ev x
        rw [e, VR] at hx
        obtain ⟨us, e', hus⟩ := hx
        obtain ⟨u, h1, h2⟩ := run_extract_of hv hus
        rw [e']
        exact Does.value h hr h2 h1
      · cases h
    · cases h
  · rename_i cl ho
    split at h
    · rename_i b hb
      have := builtin_does (ty := o.type) (cs := cl.args.map fun | .const _ => true | _ => false) hr h
      have e : execOp a.eval o = builtin b cl.argTypes o.type (cl.args.map fun | .const _ => true | _ => false) (cl.args.map a.eval) := by
        unfold execOp
        rw [ho]
        simp only [resolve, hb]
        rfl
      rw [e]
      exact this
    · rename_i x hx
      exact absurd hx (hc cl x ho)
    · rename_i x nm hx
      exact absurd hx (hi cl x nm ho)
  · cases h
end
end Go.Proofs.Ytbaekdcacmoniaa.Pv
