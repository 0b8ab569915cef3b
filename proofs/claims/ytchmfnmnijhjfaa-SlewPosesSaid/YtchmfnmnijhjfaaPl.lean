/- Plain laws of whole numbers and lists, used by the pure statements. -/
import Derived.Test.YtchmfnmnijhjfaaLim
import Derived.OpenShut
namespace Go.Proofs.Ytchmfnmnijhjfaa.Pl
open Go.RowKit Go.Proofs.YtchmfnmnijhjfaaW.PrintWords Go.Proofs.YtchmfnmnijhjfaaW.PrintLast Go.Proofs.YtchmfnmnijhjfaaW.PrintMore Go.Proofs.Ytchmfnmnijhjfaa.Lim

theorem wrap_id {x : Int} (h0 : -9223372036854775808 ≤ x) (h1 : x ≤ 9223372036854775807) : wrap64 x = x := by
  unfold wrap64
  omega
theorem wrap_nat (i : Nat) (h : i < 9223372036854775807) : wrap64 ((i : Int) + 1) = ((i + 1 : Nat) : Int) := by
  unfold wrap64
  omega
theorem wf64 {x : Int} (h : (Lit.int .i64 x).wf = true) : -9223372036854775808 ≤ x ∧ x ≤ 9223372036854775807 := bounds_i64 h
theorem wf8 {x : Int} (h : (Lit.int .u8 x).wf = true) : 0 ≤ x ∧ x ≤ 255 := bounds_u8 h
theorem rd_nat (xs : List Int) (i : Nat) (h : i < xs.length) : rd xs (i : Int) = xs[i] := by
  unfold rd
  simp [h]
theorem rdOf_nat {α : Type} (d : α) (xs : List α) (i : Nat) (h : i < xs.length) : rdOf d xs (i : Int) = xs[i] := by
  unfold rdOf
  simp [h]
theorem getD_nat {α : Type} (d : α) (xs : List α) (i : Nat) (h : i < xs.length) : xs.getD (i : Int).toNat d = xs[i] := by simp [h]
/-- 'some' of a run with a count of rounds: the closed tests of the laws. -/
theorem run_at {α : Type} {g : Nat → Option α} {r : α} (hg : Mono g) (k : Nat) (h : g k = some r) : lim g = some r := lim_of (Ev.of hg h)
end Go.Proofs.Ytchmfnmnijhjfaa.Pl
