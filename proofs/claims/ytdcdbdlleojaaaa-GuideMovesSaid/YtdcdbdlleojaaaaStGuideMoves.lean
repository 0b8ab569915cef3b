/- The statement that is left of the law GuideMoves: numbers and lists alone. -/
import Derived.Test.YtdcdbdlleojaaaaPGuideMovesx4
import Derived.Test.YtdcdbdlleojaaaaOpn
namespace Go.Proofs.Ytdcdbdlleojaaaa.StGuideMoves
open Go.RowKit Go.Proofs.Ytdcdbdlleojaaaa.PGuideMoves Go.Proofs.YtdcdbdlleojaaaaW.PrintWords Go.Proofs.YtdcdbdlleojaaaaW.PrintLast Go.Proofs.Ytdcdbdlleojaaaa.Opn
/-- The pure statement. -/
def PureS : Prop := ∀ (a0_0 : Int) (a0_1 : Int) (a1 : Int) (a2 : Int), ((Lit.int .i64 a0_0).wf = true) → ((Lit.int .i64 a0_1).wf = true) → ((Lit.int .i64 a1).wf = true) → ((Lit.int .i64 a2).wf = true) → ∃ k, spylaw2_GuideMoves.f k a0_0 a0_1 a1 a2 = some true
end Go.Proofs.Ytdcdbdlleojaaaa.StGuideMoves
