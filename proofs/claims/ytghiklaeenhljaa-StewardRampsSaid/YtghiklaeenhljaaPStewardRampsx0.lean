-- written by a program of this seat (a turned print): not typed by hand
import Derived.Test.YtghiklaeenhljaaProg
import Derived.Test.YtghiklaeenhljaaMakeC
import Derived.Below
import Derived.Deep.Draws
import Derived.Deep.AppendLies
import Derived.Maps.AppendAt
import Derived.OwnWalk
import Derived.Laws.BytesArg
import Derived.Laws.MakeOwn
import Derived.Laws.OwnMore
import Derived.Deep.OwnRows
import Derived.Tactics
import Derived.Lib.ConvBytes
import Derived.Laws.Slices
import Derived.WalkKit
import Derived.KernelRfl
import Derived.RowKit3
import Derived.Deep.LoopGhost
import Derived.Deep.QuietTactic
import Derived.BigQuiet
import Derived.WideLaws
import Derived.Deep.DeepCutAuto
import Derived.Deep.CutBlock
import Derived.Deep.RegionHeld3
import Derived.Laws.Rows
import Derived.Lib.AppendStr
import Derived.ArgAppend
import Derived.Laws.IdiomCopy
import Derived.OrdersHeld
import Derived.Laws.BitsLemmas
import Derived.RowKit
import Derived.Test.YtghiklaeenhljaaWWords
import Derived.Test.YtghiklaeenhljaaWLast
import Derived.Test.YtghiklaeenhljaaWTab
import Derived.Test.YtghiklaeenhljaaWFour
import Derived.Test.YtghiklaeenhljaaWQPut
import Derived.Test.YtghiklaeenhljaaWApart
import Derived.Test.YtghiklaeenhljaaWArr
import Derived.Test.YtghiklaeenhljaaWZeros
import Derived.Test.YtghiklaeenhljaaWFoot
import Derived.Test.YtghiklaeenhljaaWKept
import Derived.Test.YtghiklaeenhljaaWShare
import Derived.Test.YtghiklaeenhljaaWN
import Derived.Test.YtghiklaeenhljaaWFootNe
import Derived.Test.YtghiklaeenhljaaWAt
import Derived.Test.YtghiklaeenhljaaWEqStruct
import Derived.Test.YtghiklaeenhljaaWRepsOne
import Derived.Test.YtghiklaeenhljaaWInv
import Derived.Test.YtghiklaeenhljaaWInvWords
import Derived.Test.YtghiklaeenhljaaWGuard
import Derived.Test.YtghiklaeenhljaaWNEv
import Derived.Test.YtghiklaeenhljaaWMore
namespace Go.Proofs.Ytghiklaeenhljaa.PStewardRamps
open Go.RowKit Go.Proofs.YtghiklaeenhljaaW.PrintWords Go.Proofs.YtghiklaeenhljaaW.PrintLast Go.Proofs.YtghiklaeenhljaaW.PrintMore
attribute [local go_sem] max2_int min2_int max_two min_two max_three min_three max_four min_four   -- for this text's walks alone
set_option linter.unusedVariables false
set_option linter.unusedSimpArgs false



def errW : Option Int → Value
  | none => .nilIface
  | some c => .iface 0 (.int .i64 c)
theorem errW_none : errW none = .nilIface := rfl
theorem errW_some (c : Int) : errW (some c) = .iface 0 (.int .i64 c) := rfl

-- the values' own types

end Go.Proofs.Ytghiklaeenhljaa.PStewardRamps
