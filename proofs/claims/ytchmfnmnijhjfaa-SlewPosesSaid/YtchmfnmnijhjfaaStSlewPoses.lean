/- The statement that is left of the law SlewPoses: numbers and lists alone. -/
import Derived.Test.YtchmfnmnijhjfaaPSlewPosesx7
import Derived.Test.YtchmfnmnijhjfaaOpn
namespace Go.Proofs.Ytchmfnmnijhjfaa.StSlewPoses
open Go.RowKit Go.Proofs.Ytchmfnmnijhjfaa.PSlewPoses Go.Proofs.YtchmfnmnijhjfaaW.PrintWords Go.Proofs.YtchmfnmnijhjfaaW.PrintLast Go.Proofs.Ytchmfnmnijhjfaa.Opn
/-- The pure statement. -/
def PureS : Prop := ∀ (a0_0_0 : Int) (a0_0_1 : Int) (a0_0_2 : Int) (a0_0_3 : Int) (a0_1_0 : Int) (a0_1_1 : Int) (a0_1_2 : Int) (a0_1_3 : Int) (a0_2_0 : Int) (a0_2_1 : Int) (a1_0 : Int) (a1_1 : Int) (a2_0 : Int) (a2_1 : Int), ((Lit.int .i64 a0_0_0).wf = true) → ((Lit.int .i64 a0_0_1).wf = true) → ((Lit.int .i64 a0_0_2).wf = true) → ((Lit.int .i64 a0_0_3).wf = true) → ((Lit.int .i64 a0_1_0).wf = true) → ((Lit.int .i64 a0_1_1).wf = true) → ((Lit.int .i64 a0_1_2).wf = true) → ((Lit.int .i64 a0_1_3).wf = true) → ((Lit.int .i64 a0_2_0).wf = true) → ((Lit.int .i64 a0_2_1).wf = true) → ((Lit.int .i64 a1_0).wf = true) → ((Lit.int .i64 a1_1).wf = true) → ((Lit.int .i64 a2_0).wf = true) → ((Lit.int .i64 a2_1).wf = true) → ∃ k, spylaw2_SlewPoses.f k a0_0_0 a0_0_1 a0_0_2 a0_0_3 a0_1_0 a0_1_1 a0_1_2 a0_1_3 a0_2_0 a0_2_1 a1_0 a1_1 a2_0 a2_1 = some true
end Go.Proofs.Ytchmfnmnijhjfaa.StSlewPoses
