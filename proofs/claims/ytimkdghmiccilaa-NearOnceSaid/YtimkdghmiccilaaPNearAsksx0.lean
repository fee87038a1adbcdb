-- PRINTED BY print.sh 35421559b90ae4d0a3588c463048766b98c2df88dd9212a6774a882060cdf62d: not written by this session
import Derived.Test.YtimkdghmiccilaaProg
import Derived.Below
import Derived.Deep.Draws
import Derived.Deep.AppendLies
import Derived.Maps.AppendAt
import Derived.OwnWalk
import Derived.Laws.BytesArg
import Derived.Laws.MakeOwn
import Derived.Laws.OwnMore
import Derived.Deep.OwnRows
import Derived.Tactics
import Derived.Lib.ConvBytes
import Derived.Laws.Slices
import Derived.WalkKit
import Derived.KernelRfl
import Derived.RowKit3
import Derived.Deep.LoopGhost
import Derived.Deep.QuietTactic
import Derived.BigQuiet
import Derived.WideLaws
import Derived.Deep.DeepCutAuto
import Derived.Deep.CutBlock
import Derived.Deep.RegionHeld3
import Derived.Laws.Rows
import Derived.Lib.AppendStr
import Derived.ArgAppend
import Derived.Laws.IdiomCopy
import Derived.OrdersHeld
import Derived.Laws.BitsLemmas
import Derived.RowKit
import Derived.Test.YtimkdghmiccilaaWWords
import Derived.Test.YtimkdghmiccilaaWLast
import Derived.Test.YtimkdghmiccilaaWTab
import Derived.Test.YtimkdghmiccilaaWFour
import Derived.Test.YtimkdghmiccilaaWQPut
import Derived.Test.YtimkdghmiccilaaWApart
import Derived.Test.YtimkdghmiccilaaWArr
import Derived.Test.YtimkdghmiccilaaWZeros
import Derived.Test.YtimkdghmiccilaaWFoot
import Derived.Test.YtimkdghmiccilaaWKept
import Derived.Test.YtimkdghmiccilaaWShare
import Derived.Test.YtimkdghmiccilaaWN
import Derived.Test.YtimkdghmiccilaaWFootNe
import Derived.Test.YtimkdghmiccilaaWAt
import Derived.Test.YtimkdghmiccilaaWEqStruct
import Derived.Test.YtimkdghmiccilaaWRepsOne
import Derived.Test.YtimkdghmiccilaaWInv
import Derived.Test.YtimkdghmiccilaaWInvWords
import Derived.Test.YtimkdghmiccilaaWGuard
import Derived.Test.YtimkdghmiccilaaWNEv
import Derived.Test.YtimkdghmiccilaaWMore
namespace Go.Proofs.Ytimkdghmiccilaa.PNearAsks
open Go.RowKit Go.Proofs.YtimkdghmiccilaaW.PrintWords Go.Proofs.YtimkdghmiccilaaW.PrintLast Go.Proofs.YtimkdghmiccilaaW.PrintMore
attribute [local go_sem] max2_int min2_int max_two min_two max_three min_three max_four min_four   -- for this text's walks alone
set_option linter.unusedVariables false
set_option linter.unusedSimpArgs false



def errW : Option Int → Value
  | none => .nilIface
  | some c => .iface 0 (.int .i64 c)
theorem errW_none : errW none = .nilIface := rfl
theorem errW_some (c : Int) : errW (some c) = .iface 0 (.int .i64 c) := rfl

-- the values' own types

end Go.Proofs.Ytimkdghmiccilaa.PNearAsks
