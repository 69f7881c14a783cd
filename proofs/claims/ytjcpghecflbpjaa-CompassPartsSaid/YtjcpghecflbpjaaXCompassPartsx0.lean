-- written by xprint (wip/tools): a program of this session that goes on from the kit's print
import Derived.Test.YtjcpghecflbpjaaProg
import Derived.Below
import Derived.Deep.Draws
import Derived.Deep.AppendLies
import Derived.Maps.AppendAt
import Derived.OwnWalk
import Derived.Laws.BytesArg
import Derived.Laws.MakeOwn
import Derived.Laws.OwnMore
import Derived.Deep.OwnRows
import Derived.Tactics
import Derived.Lib.ConvBytes
import Derived.Laws.Slices
import Derived.WalkKit
import Derived.KernelRfl
import Derived.RowKit3
import Derived.Deep.LoopGhost
import Derived.Deep.QuietTactic
import Derived.BigQuiet
import Derived.WideLaws
import Derived.Deep.DeepCutAuto
import Derived.Deep.CutBlock
import Derived.Deep.RegionHeld3
import Derived.Laws.Rows
import Derived.Lib.AppendStr
import Derived.ArgAppend
import Derived.Laws.IdiomCopy
import Derived.OrdersHeld
import Derived.Laws.BitsLemmas
import Derived.RowKit
import Derived.Test.YtjcpghecflbpjaaXW
import Derived.Test.YtjcpghecflbpjaaXOpen
import Derived.Test.YtjcpghecflbpjaaWWords
import Derived.Test.YtjcpghecflbpjaaWLast
import Derived.Test.YtjcpghecflbpjaaWTab
import Derived.Test.YtjcpghecflbpjaaWFour
import Derived.Test.YtjcpghecflbpjaaWQPut
import Derived.Test.YtjcpghecflbpjaaWApart
import Derived.Test.YtjcpghecflbpjaaWArr
import Derived.Test.YtjcpghecflbpjaaWZeros
import Derived.Test.YtjcpghecflbpjaaWFoot
import Derived.Test.YtjcpghecflbpjaaWKept
import Derived.Test.YtjcpghecflbpjaaWShare
import Derived.Test.YtjcpghecflbpjaaWN
import Derived.Test.YtjcpghecflbpjaaWFootNe
import Derived.Test.YtjcpghecflbpjaaWAt
import Derived.Test.YtjcpghecflbpjaaWEqStruct
import Derived.Test.YtjcpghecflbpjaaWRepsOne
import Derived.Test.YtjcpghecflbpjaaWInv
import Derived.Test.YtjcpghecflbpjaaWInvWords
import Derived.Test.YtjcpghecflbpjaaWGuard
import Derived.Test.YtjcpghecflbpjaaWNEv
import Derived.Test.YtjcpghecflbpjaaWMore
namespace Go.Proofs.Ytjcpghecflbpjaa.XCompassParts
open Go.Proofs.YtjcpghecflbpjaaX
open Go.RowKit Go.Proofs.YtjcpghecflbpjaaW.PrintWords Go.Proofs.YtjcpghecflbpjaaW.PrintLast Go.Proofs.YtjcpghecflbpjaaW.PrintMore
attribute [local go_sem] max2_int min2_int max_two min_two max_three min_three max_four min_four   -- for this text's walks alone
set_option linter.unusedVariables false
set_option linter.unusedSimpArgs false



def errW : Option Int → Value
  | none => .nilIface
  | some c => .iface 0 (.int .i64 c)
theorem errW_none : errW none = .nilIface := rfl
theorem errW_some (c : Int) : errW (some c) = .iface 0 (.int .i64 c) := rfl

-- the values' own types

end Go.Proofs.Ytjcpghecflbpjaa.XCompassParts
