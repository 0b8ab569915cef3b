/- The statement that is left of the law GuideSearches: numbers and lists alone. -/
import Derived.Test.YtdcdbdlleojaaaaPGuideSearchesx2
import Derived.Test.YtdcdbdlleojaaaaOpn
namespace Go.Proofs.Ytdcdbdlleojaaaa.StGuideSearches
open Go.RowKit Go.Proofs.Ytdcdbdlleojaaaa.PGuideSearches Go.Proofs.YtdcdbdlleojaaaaW.PrintWords Go.Proofs.YtdcdbdlleojaaaaW.PrintLast Go.Proofs.Ytdcdbdlleojaaaa.Opn
/-- The pure statement. -/
def PureS : Prop := ∀ (l0 : (List Int)), (l0.length ≤ maxLen ∧ l0.length * 8 ≤ 140737488351232 ∧ (∀ x ∈ l0, (Lit.int .i64 x).wf = true)) → ∃ k, spylaw2_GuideSearches.f k l0 = some true
end Go.Proofs.Ytdcdbdlleojaaaa.StGuideSearches
