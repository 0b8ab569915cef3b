/- Results; a call by the machine is a call of the model's. -/
import Derived.Test.YtbaekdcacmoniaaPv17
namespace Go.Proofs.Ytbaekdcacmoniaa.Pv
open Go Go.RowKit

section
variable {R : Type} {r : R} {ρ : Nat → Value} {own : Nat → Prop} {W0 : World} {c : Cx W0} {w : World} {s : St} {a : Act} {P : Program} {S : List (FuncId × FSig)}
theorem loadAt_loadVar {t : TypeId} {v u : Value} (h : (Instr.loadAt t v).run P w = .ok u w) : (do loadVar t (← asAddr v) : Sem Value).run P w = .ok u w := by
  cases v with
  | pointer A =>
    cases A with
    | none => simp [Instr.loadAt, Instr.sureAddr] at h
    | some A => simpa [Instr.loadAt, Instr.sureAddr, asAddr] using h
  | _ => simp [Instr.loadAt, Instr.sureAddr] at h
def resGet (tmps : Array Value) : ResultVar → Sem Value
  | .tmp t => pure (tmps.getD t undef)
  | .cell a t => do loadVar t (← asAddr (tmps.getD a undef))
theorem res_sound (hr : RelX ρ own c s a w) : ∀ {rs : List ResultVar} {vs : List PV}, resPV P s rs = some vs → ∃ us, (rs.mapM (resGet a.tmps)).run P w = .ok us w ∧ VRs ρ own w vs us
  | [], vs, h => by
    rw [resPV] at h
    cases h
    exact ⟨[], by simp, by rw [VRs]⟩
  | .tmp t :: rs, vs, h => by
    rw [resPV, Option.map_eq_some_iff] at h
    obtain ⟨l, hl, rfl⟩ := h
    obtain ⟨us, h1, h2⟩ := res_sound hr hl
    refine ⟨a.tmps.getD t undef :: us, ?_, by rw [VRs]; exact ⟨_, _, rfl, hr.env t, h2⟩⟩
    rw [List.mapM_cons]
    simp only [resGet, Sem.run_bind, Sem.run_pure, Result.andThen_ok, h1]
  | .cell x t :: rs, vs, h => by
    rw [resPV] at h
    split at h
    · rename_i v l hv hl
      cases h
      obtain ⟨us, h1, h2⟩ := res_sound hr hl
      obtain ⟨u, h3, h4⟩ := run_load hv hr (hr.env x)
      refine ⟨u :: us, ?_, by rw [VRs]; exact ⟨_, _, rfl, h4, h2⟩⟩
      have h5 := loadAt_loadVar h3
      rw [List.mapM_cons]
      simp only [resGet, Sem.run_bind, Result.andThen_ok, Sem.run_pure] at h5 ⊢
      rw [h5]
      simp only [Result.andThen_ok, h1]
    · cases h
theorem results_sound (hr : RelX ρ own c s a w) {fn : Func} {vs : List PV} (h : resPV P s fn.results.toList = some vs) : ∃ us, (results fn a.tmps).run P w = .ok (wrapV us) w ∧ VRs ρ own w vs us := by
  obtain ⟨us, h1, h2⟩ := res_sound hr h
  refine ⟨us, ?_, h2⟩
  have e : ∀ f : ResultVar → Sem Value, (∀ x, f x = resGet a.tmps x) → (fn.results.mapM f).run P w = .ok us.toArray w := by
    intro f hf
    rw [show f = resGet a.tmps from funext hf, Array.mapM_eq_mapM_toList]
    simp [h1]
  unfold results
  rw [Sem.run_bind, e _ (fun x => by cases x <;> rfl)]
  simp only [Result.andThen_ok, Sem.run_pure]
  congr 1
  cases us with
  | nil => rfl
  | cons u us =>
    cases us with
    | nil => rfl
    | cons v us => simp [wrapV]
theorem Shapes.of (hr : RelX ρ own c s a w) : ∀ {ts : List TypeId} {vs : List PV} {us : List Value}, shapesOk P s.sto ts vs = true → VRs ρ own w vs us → Shapes P ts us ∧ VRs ρ own w (vs.flatMap cellsOfPV) (us.flatMap (·.cells.toList))
  | [], [], us, _, h => by
    rw [VRs] at h
    subst h
    exact ⟨by rw [Shapes]; trivial, by rw [List.flatMap_nil, List.flatMap_nil, VRs]⟩
  | [], v :: vs, us, hs, _ => by rw [shapesOk] at hs <;> first | cases hs; done | nofun
  | t :: ts, [], us, hs, _ => by rw [shapesOk] at hs <;> first | cases hs; done | nofun
  | t :: ts, v :: vs, us, hs, h => by
    rw [shapesOk, Bool.and_eq_true] at hs
    rw [VRs] at h
    obtain ⟨u, us', rfl, h1, h2⟩ := h
    obtain ⟨h3, h4⟩ := Shapes.of hr hs.2 h2
    have hs1 := hs.1
    unfold shapeOk at hs1
    split at hs1
    · rename_i ha
      split at hs1
      case h_2 => cases hs1
      rename_i cs
      split at hs1
      · rename_i n hn
        have hnl : n = cs.length := by simpa using hs1
        rw [VR] at h1
        obtain ⟨arr, rfl, h1⟩ := h1
        have hl := h1.len
        refine ⟨?_, ?_⟩
        · rw [Shapes]
          refine ⟨?_, h3⟩
          unfold Shape
          rw [ha]
          exact ⟨arr, rfl, by rw [hn, hnl, ← hl]; simp⟩
        · rw [List.flatMap_cons, List.flatMap_cons]
          exact VRs.append (ps := cellsOfPV (.agg cs)) (vs := (Value.agg arr).cells.toList) h1 h4
      · cases hs1
    · rename_i ha
      have hone := solid_one hr hs1 h1
      have hcells : u.cells = #[u] := by
        cases u <;> first | rfl | (simp [Value.oneCell'] at hone)
      refine ⟨?_, ?_⟩
      · rw [Shapes]
        refine ⟨?_, h3⟩
        unfold Shape
        rw [ha]
        exact hcells
      · rw [List.flatMap_cons, List.flatMap_cons]
        refine VRs.append ?_ h4
        refine VRs_cellsOf hr (solid_known ?_) h1
        have : cellsOfPV v = [v] := by
          cases v <;> first | rfl | (simp [solid] at hs1)
        rw [this]
        simp [solids, hs1]
    · cases hs1
end
end Go.Proofs.Ytbaekdcacmoniaa.Pv
