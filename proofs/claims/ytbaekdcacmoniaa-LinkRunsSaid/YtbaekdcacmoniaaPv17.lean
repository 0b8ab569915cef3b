/- A run of a body; calls. -/
import Derived.Test.YtbaekdcacmoniaaPvJ
import Derived.Test.YtbaekdcacmoniaaPvN1
import Derived.Scope
namespace Go.Proofs.Ytbaekdcacmoniaa.Pv
open Go Go.RowKit

def itm : It → Item
  | .code c => .code c
  | .here c => .code c
  | .inBlock id => .inBlock id
  | .inLoop c => .inLoop c
  | .inScope c => .inScope c
theorem exitIt_sound (id : Nat) : ∀ {k k' : List It}, exitIt id k = some k' → exitTo id (k.map itm) = some (k'.map itm)
  | [], _, h => by cases h
  | .inBlock j :: k, k', h => by
    rw [exitIt] at h
    rw [List.map_cons, itm, exitTo]
    split at h
    · rename_i e
      cases h
      have : id = j := by simpa using e
      simp [this]
    · rename_i e
      have : ¬ id = j := by simpa using e
      have hj : ¬ j = id := fun q => this q.symm
      simp [hj]
      exact exitIt_sound id h
  | .code c :: k, k', h => by rw [exitIt] at h <;> first | (rw [List.map_cons, itm, exitTo] <;> first | exact exitIt_sound id h | nofun) | nofun
  | .here c :: k, k', h => by rw [exitIt] at h <;> first | (rw [List.map_cons, itm, exitTo] <;> first | exact exitIt_sound id h | nofun) | nofun
  | .inLoop c :: k, k', h => by rw [exitIt] at h <;> first | (rw [List.map_cons, itm, exitTo] <;> first | exact exitIt_sound id h | nofun) | nofun
  | .inScope c :: k, k', h => by rw [exitIt] at h <;> first | (rw [List.map_cons, itm, exitTo] <;> first | exact exitIt_sound id h | nofun) | nofun
theorem nth_trim (keep : List Nat) : ∀ (l : List PV) (i t : Nat), nth (trimL keep i l) t = if memN (i + t) keep = true then nth l t else .undef
  | [], i, t => by simp [trimL, nth]
  | x :: r, i, 0 => by rw [trimL, nth, nth, Nat.add_zero]
  | x :: r, i, t + 1 => by rw [trimL, nth, nth, nth_trim keep r (i + 1) t, show i + 1 + t = i + (t + 1) by omega]
theorem len_trim (keep : List Nat) : ∀ (l : List PV) (i : Nat), (trimL keep i l).length = l.length
  | [], _ => rfl
  | x :: r, i => by simp only [trimL, List.length_cons, len_trim keep r (i + 1)]
theorem look_trim : ∀ (keep : List Nat) (l : List (Nat × Blk)) (j : Nat) (b : Blk), look j (trimB keep l) = some b → look j l = some b
  | [], l, j, b, h => by cases h
  | id :: r, l, j, b, h => by
    rw [trimB] at h
    split at h
    · rename_i b0 hb0
      by_cases e : id = j
      · subst e
        rw [look_cons_same] at h
        cases h
        exact hb0
      · rw [look_cons_ne _ _ e] at h
        exact look_trim r l j b h
    · exact look_trim r l j b h
section
variable {R : Type} {r : R} {ρ : Nat → Value} {own : Nat → Prop} {W0 : World} {c : Cx W0} {w : World} {s : St} {a : Act} {P : Program} {S : List (FuncId × FSig)} {callT : (f : FuncId) → (g : FSig) → List PV → Option g.res.den}
theorem RelX.trim (h : RelX ρ own c s a w) (k : Point) : RelX ρ own c (s.trim k) a w := by
  refine ⟨?_, fun t => ?_, fun id b hb => h.sto id b (look_trim _ _ _ _ hb), fun i j x y g hi hj => h.apart i j x y g (look_trim _ _ _ _ hi) (look_trim _ _ _ _ hj), fun id b g hb => h.owned id b g (look_trim _ _ _ _ hb), h.lo, h.base, h.fr, h.below, h.defers, fun i v hp hi => ?_⟩
  · show (trimL _ _ _).length = _
    rw [len_trim]
    exact h.len
  · show VR ρ own w (nth (trimL _ _ _) t) _
    rw [nth_trim]
    split
    · exact h.env t
    · rw [VR]
      trivial
  · have hi' : pinAt i (nth (trimL k.keep 0 s.env) i) = true := hi
    rw [nth_trim] at hi'
    split at hi'
    · exact h.pin i v hp hi'
    · cases hi'
/-- A run comes to its end. -/
def Fin (P : Program) {W0 : World} (c : Cx W0) (lim : Nat) (v : Array Value) (b : Frame) (cs : List Frame) (fin : St → Option R) (r : R) (m : Machine) : Prop :=
  ∃ ρ' own' s' a' w' todo, fin s' = some r ∧ RelX ρ' own' c s' (extA a' v) w' ∧ Virt lim v a' ∧ Steps P m (lone { b.at a' todo with mode := .returning } cs w')
theorem Fin.of {lim : Nat} {v : Array Value} {b : Frame} {cs : List Frame} {fin : St → Option R} {m m1 : Machine} (h : Steps P m m1) (k : Fin P c lim v b cs fin r m1) : Fin P c lim v b cs fin r m := by
  obtain ⟨ρ', own', s', a', w', todo, h1, h2, h4, h3⟩ := k
  exact ⟨ρ', own', s', a', w', todo, h1, h2, h4, h.trans h3⟩
theorem eval_virt {lim : Nat} {v : Array Value} {a : Act} {x : Operand} (hv : Virt lim v a) (hx : (Nat.beq lim 0 || inB lim x) = true) : (extA a v).eval x = a.eval x := by
  rcases hv with ⟨_, rfl⟩ | ⟨h0, hs⟩
  · rw [extA_nil]
  · have hb : Nat.beq lim 0 = false := by
      cases hq : Nat.beq lim 0 with
      | false => rfl
      | true => exact absurd (Nat.eq_of_beq_eq_true hq) h0
    rw [hb, Bool.false_or] at hx
    exact eval_ext hs hx
theorem run1_sound (hS : OkS P S W0) (hcall : ∀ f g args x, callT f g args = some x → CallOk W0 P f g args x) {inl : InlT R} (hI : InlOk P W0 r inl) {lim : Nat} {v : Array Value} {b : Frame} {cs : List Frame} {fin : St → Option R} {self : List It → St → Option R} {ann : List (Nat × Point)}
    (hself : ∀ its s a w ρ own, self its s = some r → RelX ρ own c s (extA a v) w → Virt lim v a → Fin P c lim v b cs fin r (lone (b.at a (its.map itm)) cs w)) :
    ∀ (n : Nat) (its : List It) {s : St} {a : Act} {w : World} {ρ : Nat → Value} {own : Nat → Prop}, run1 P S callT inl self ann fin lim n its s = some r → RelX ρ own c s (extA a v) w → Virt lim v a → Fin P c lim v b cs fin r (lone (b.at a (its.map itm)) cs w)
  | 0, its, s, a, w, ρ, own, h, hr, hv => by rw [run1] at h; cases h
  | n + 1, [], s, a, w, ρ, own, h, hr, hv => by
    rw [run1] at h
    exact ⟨ρ, own, s, a, w, [], h, hr, hv, .one step_end⟩
  | n + 1, .inBlock id :: k, s, a, w, ρ, own, h, hr, hv => by
    rw [run1] at h
    exact .of (.one step_inBlock) (run1_sound hS hcall hI hself n k h hr hv)
  | n + 1, .inScope c :: k, s, a, w, ρ, own, h, hr, hv => by
    rw [run1] at h
    exact .of (.one step_inScope) (run1_sound hS hcall hI hself n k h hr hv)
  | n + 1, .inLoop c :: k, s, a, w, ρ, own, h, hr, hv => by
    rw [run1] at h
    exact .of (.one step_inLoop) (run1_sound hS hcall hI hself n (.code c :: .inLoop c :: k) h hr hv)
  | n + 1, .here co :: k, s, a, w, ρ, own, h, hr, hv => by
    cases co with
    | region id ops draw =>
      rw [run1] at h
      obtain ⟨e, a', w', ⟨rfl, hv', ρ', own', s', h1, h2⟩, h3⟩ := evRun_sound hS hcall hI (id := id) h hr hv b (k.map itm) cs
      exact .of h3 (run1_sound hS hcall hI hself n k h1 h2 hv')
    | _ => rw [run1] at h <;> first | cases h; done | nofun
  | n + 1, .code co :: k, s, a, w, ρ, own, h, hr, hv => by
    cases co with
    | skip =>
      rw [run1] at h
      exact .of (.one step_skip) (run1_sound hS hcall hI hself n k h hr hv)
    | seq x y =>
      rw [run1] at h
      exact .of (.one step_seq) (run1_sound hS hcall hI hself n (.code x :: .code y :: k) h hr hv)
    | cond x y z =>
      rw [run1] at h
      split at h
      case isFalse => cases h
      rename_i hx
      obtain ⟨q, eq, h⟩ := ofBool_some h
      have hb := hr.ev x
      rw [eq, VR, eval_virt hv hx] at hb
      cases q with
      | true => exact .of (.one (step_cond hb)) (run1_sound hS hcall hI hself n (.code y :: k) h hr hv)
      | false => exact .of (.one (step_cond hb)) (run1_sound hS hcall hI hself n (.code z :: k) h hr hv)
    | block id x =>
      rw [run1] at h
      exact .of (.one step_block) (run1_sound hS hcall hI hself n (.code x :: .inBlock id :: k) h hr hv)
    | loop x =>
      rw [run1] at h
      exact .of (.one step_loop) (run1_sound hS hcall hI hself n (.code x :: .inLoop x :: k) h hr hv)
    | exit id =>
      rw [run1] at h
      split at h
      · rename_i k' hk
        exact .of (.one (step_exit (exitIt_sound id hk))) (run1_sound hS hcall hI hself n k' h hr hv)
      · cases h
    | scope x =>
      rw [run1] at h
      exact .of (.one step_scope) (run1_sound hS hcall hI hself n (.code x :: .inScope x :: k) h hr hv)
    | ret =>
      rw [run1] at h
      exact ⟨ρ, own, s, a, w, _, h, hr, hv, .one step_ret⟩
    | region id ops draw =>
      rw [run1] at h
      split at h
      · rename_i kp hkp
        obtain ⟨ρ', own', hr'⟩ := hr.norms kp.norm
        exact hself (.here (.region id ops draw) :: k) _ _ _ _ _ h (hr'.trim _) hv
      · obtain ⟨e, a', w', ⟨rfl, hv', ρ', own', s', h1, h2⟩, h3⟩ := evRun_sound hS hcall hI (id := id) h hr hv b (k.map itm) cs
        exact .of h3 (run1_sound hS hcall hI hself n k h1 h2 hv')
    | _ => rw [run1] at h <;> first | cases h; done | nofun
end
end Go.Proofs.Ytbaekdcacmoniaa.Pv
