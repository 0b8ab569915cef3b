/- The statement that is left of the law ReplanKept: numbers and lists alone. -/
import Derived.Test.YtdcdbdlleojaaaaPReplanKeptx7
import Derived.Test.YtdcdbdlleojaaaaOpn
namespace Go.Proofs.Ytdcdbdlleojaaaa.StReplanKept
open Go.RowKit Go.Proofs.Ytdcdbdlleojaaaa.PReplanKept Go.Proofs.YtdcdbdlleojaaaaW.PrintWords Go.Proofs.YtdcdbdlleojaaaaW.PrintLast Go.Proofs.Ytdcdbdlleojaaaa.Opn
/-- What a reading tells of a value of type 33. -/
def g33 (x : S33) : Prop := ((Lit.int .i64 x.f0).wf = true) ∧ ((Lit.int .i64 x.f1).wf = true) ∧ ((Lit.int .i64 x.f2).wf = true) ∧ ((Lit.int .i64 x.f3).wf = true)
/-- The pure statement. -/
def PureS : Prop := ∀ (l0 : (List S33)) (a1 : Int), (l0.length ≤ maxLen ∧ l0.length * 32 ≤ 140737488351232 ∧ (∀ x ∈ l0, g33 x)) → ((Lit.int .i64 a1).wf = true) → ∃ k, spylaw2_ReplanKept.f k l0 a1 = some true
section
variable {H : Type} {enc : TypeId × Value → H} {W : World} {base : Nat} {spare : Nat → Bool} {held : Bool}
theorem rd_k33 : Rds enc Try.prog W base spare held 33 k33 g33 := rds_iso (fun x : S33 => (x.f0, x.f1, x.f2, x.f3)) (fun p => ⟨p.1, p.2.1, p.2.2.1, p.2.2.2⟩) (fun _ => rfl) (rds_struct Try.underlying33 rfl (by kernel_rfl) (rdsF_cons rfl (by kernel_rfl) (rds_int Try.underlying3) (rdsF_cons rfl (by kernel_rfl) (rds_int Try.underlying3) (rdsF_cons rfl (by kernel_rfl) (rds_int Try.underlying3) (rdsF_one rfl (by kernel_rfl) (rds_int Try.underlying3))))))
end
end Go.Proofs.Ytdcdbdlleojaaaa.StReplanKept
