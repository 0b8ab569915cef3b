/- The statement that is left of the law SlewTargets: numbers and lists alone. -/
import Derived.Test.YtchmfnmnijhjfaaPSlewTargetsx4
import Derived.Test.YtchmfnmnijhjfaaOpn
namespace Go.Proofs.Ytchmfnmnijhjfaa.StSlewTargets
open Go.RowKit Go.Proofs.Ytchmfnmnijhjfaa.PSlewTargets Go.Proofs.YtchmfnmnijhjfaaW.PrintWords Go.Proofs.YtchmfnmnijhjfaaW.PrintLast Go.Proofs.Ytchmfnmnijhjfaa.Opn
/-- The pure statement. -/
def PureS : Prop := ∀ (a0_0 : Int) (a0_1 : Int) (a0_2 : Int) (a0_3 : Int) (a1 : Int) (a2 : Int), ((Lit.int .i64 a0_0).wf = true) → ((Lit.int .i64 a0_1).wf = true) → ((Lit.int .i64 a0_2).wf = true) → ((Lit.int .i64 a0_3).wf = true) → ((Lit.int .i64 a1).wf = true) → ((Lit.int .i64 a2).wf = true) → ∃ k, spylaw2_SlewTargets.f k a0_0 a0_1 a0_2 a0_3 a1 a2 = some true
end Go.Proofs.Ytchmfnmnijhjfaa.StSlewTargets
