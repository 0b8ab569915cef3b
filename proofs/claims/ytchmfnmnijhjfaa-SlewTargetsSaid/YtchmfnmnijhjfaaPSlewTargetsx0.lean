-- PRINTED BY print.sh 35421559b90ae4d0a3588c463048766b98c2df88dd9212a6774a882060cdf62d: not written by this session
import Derived.Test.YtchmfnmnijhjfaaProg
import Derived.Below
import Derived.Deep.Draws
import Derived.Deep.AppendLies
import Derived.Maps.AppendAt
import Derived.OwnWalk
import Derived.Laws.BytesArg
import Derived.Laws.MakeOwn
import Derived.Laws.OwnMore
import Derived.Deep.OwnRows
import Derived.Tactics
import Derived.Lib.ConvBytes
import Derived.Laws.Slices
import Derived.WalkKit
import Derived.KernelRfl
import Derived.RowKit3
import Derived.Deep.LoopGhost
import Derived.Deep.QuietTactic
import Derived.BigQuiet
import Derived.WideLaws
import Derived.Deep.DeepCutAuto
import Derived.Deep.CutBlock
import Derived.Deep.RegionHeld3
import Derived.Laws.Rows
import Derived.Lib.AppendStr
import Derived.ArgAppend
import Derived.Laws.IdiomCopy
import Derived.OrdersHeld
import Derived.Laws.BitsLemmas
import Derived.RowKit
import Derived.Test.YtchmfnmnijhjfaaWWords
import Derived.Test.YtchmfnmnijhjfaaWLast
import Derived.Test.YtchmfnmnijhjfaaWTab
import Derived.Test.YtchmfnmnijhjfaaWFour
import Derived.Test.YtchmfnmnijhjfaaWQPut
import Derived.Test.YtchmfnmnijhjfaaWApart
import Derived.Test.YtchmfnmnijhjfaaWArr
import Derived.Test.YtchmfnmnijhjfaaWZeros
import Derived.Test.YtchmfnmnijhjfaaWFoot
import Derived.Test.YtchmfnmnijhjfaaWKept
import Derived.Test.YtchmfnmnijhjfaaWShare
import Derived.Test.YtchmfnmnijhjfaaWN
import Derived.Test.YtchmfnmnijhjfaaWFootNe
import Derived.Test.YtchmfnmnijhjfaaWAt
import Derived.Test.YtchmfnmnijhjfaaWEqStruct
import Derived.Test.YtchmfnmnijhjfaaWRepsOne
import Derived.Test.YtchmfnmnijhjfaaWInv
import Derived.Test.YtchmfnmnijhjfaaWInvWords
import Derived.Test.YtchmfnmnijhjfaaWGuard
import Derived.Test.YtchmfnmnijhjfaaWNEv
import Derived.Test.YtchmfnmnijhjfaaWMore
namespace Go.Proofs.Ytchmfnmnijhjfaa.PSlewTargets
open Go.RowKit Go.Proofs.YtchmfnmnijhjfaaW.PrintWords Go.Proofs.YtchmfnmnijhjfaaW.PrintLast Go.Proofs.YtchmfnmnijhjfaaW.PrintMore
attribute [local go_sem] max2_int min2_int max_two min_two max_three min_three max_four min_four   -- for this text's walks alone
set_option linter.unusedVariables false
set_option linter.unusedSimpArgs false



def errW : Option Int → Value
  | none => .nilIface
  | some c => .iface 0 (.int .i64 c)
theorem errW_none : errW none = .nilIface := rfl
theorem errW_some (c : Int) : errW (some c) = .iface 0 (.int .i64 c) := rfl

-- the values' own types

end Go.Proofs.Ytchmfnmnijhjfaa.PSlewTargets
