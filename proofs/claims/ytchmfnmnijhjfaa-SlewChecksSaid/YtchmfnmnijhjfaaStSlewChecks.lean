/- The statement that is left of the law SlewChecks: numbers and lists alone. -/
import Derived.Test.YtchmfnmnijhjfaaPSlewChecksx4
import Derived.Test.YtchmfnmnijhjfaaOpn
namespace Go.Proofs.Ytchmfnmnijhjfaa.StSlewChecks
open Go.RowKit Go.Proofs.Ytchmfnmnijhjfaa.PSlewChecks Go.Proofs.YtchmfnmnijhjfaaW.PrintWords Go.Proofs.YtchmfnmnijhjfaaW.PrintLast Go.Proofs.Ytchmfnmnijhjfaa.Opn
/-- The pure statement. -/
def PureS : Prop := ∀ (a0_0 : Int) (a0_1 : Int) (a0_2 : Int) (a0_3 : Int) (a1_0_0 : Int) (a1_0_1 : Int) (a1_0_2 : Int) (a1_0_3 : Int) (a1_1_0 : Int) (a1_1_1 : Int) (a1_1_2 : Int) (a1_1_3 : Int) (a1_2_0 : Int) (a1_2_1 : Int) (a2 : Int), ((Lit.int .i64 a0_0).wf = true) → ((Lit.int .i64 a0_1).wf = true) → ((Lit.int .i64 a0_2).wf = true) → ((Lit.int .i64 a0_3).wf = true) → ((Lit.int .i64 a1_0_0).wf = true) → ((Lit.int .i64 a1_0_1).wf = true) → ((Lit.int .i64 a1_0_2).wf = true) → ((Lit.int .i64 a1_0_3).wf = true) → ((Lit.int .i64 a1_1_0).wf = true) → ((Lit.int .i64 a1_1_1).wf = true) → ((Lit.int .i64 a1_1_2).wf = true) → ((Lit.int .i64 a1_1_3).wf = true) → ((Lit.int .i64 a1_2_0).wf = true) → ((Lit.int .i64 a1_2_1).wf = true) → ((Lit.int .i64 a2).wf = true) → ∃ k, spylaw2_SlewChecks.f k a0_0 a0_1 a0_2 a0_3 a1_0_0 a1_0_1 a1_0_2 a1_0_3 a1_1_0 a1_1_1 a1_1_2 a1_1_3 a1_2_0 a1_2_1 a2 = some true
end Go.Proofs.Ytchmfnmnijhjfaa.StSlewChecks
