-- PRINTED BY print.sh 35421559b90ae4d0a3588c463048766b98c2df88dd9212a6774a882060cdf62d: not written by this session
import Derived.Test.YtlmppdpjjkdoaabProg
import Derived.Below
import Derived.Deep.Draws
import Derived.Deep.AppendLies
import Derived.Maps.AppendAt
import Derived.OwnWalk
import Derived.Laws.BytesArg
import Derived.Laws.MakeOwn
import Derived.Laws.OwnMore
import Derived.Deep.OwnRows
import Derived.Tactics
import Derived.Lib.ConvBytes
import Derived.Laws.Slices
import Derived.WalkKit
import Derived.KernelRfl
import Derived.RowKit3
import Derived.Deep.LoopGhost
import Derived.Deep.QuietTactic
import Derived.BigQuiet
import Derived.WideLaws
import Derived.Deep.DeepCutAuto
import Derived.Deep.CutBlock
import Derived.Deep.RegionHeld3
import Derived.Laws.Rows
import Derived.Lib.AppendStr
import Derived.ArgAppend
import Derived.Laws.IdiomCopy
import Derived.OrdersHeld
import Derived.Laws.BitsLemmas
import Derived.RowKit
import Derived.Test.YtlmppdpjjkdoaabWWords
import Derived.Test.YtlmppdpjjkdoaabWLast
import Derived.Test.YtlmppdpjjkdoaabWTab
import Derived.Test.YtlmppdpjjkdoaabWFour
import Derived.Test.YtlmppdpjjkdoaabWQPut
import Derived.Test.YtlmppdpjjkdoaabWApart
import Derived.Test.YtlmppdpjjkdoaabWArr
import Derived.Test.YtlmppdpjjkdoaabWZeros
import Derived.Test.YtlmppdpjjkdoaabWFoot
import Derived.Test.YtlmppdpjjkdoaabWKept
import Derived.Test.YtlmppdpjjkdoaabWShare
import Derived.Test.YtlmppdpjjkdoaabWN
import Derived.Test.YtlmppdpjjkdoaabWFootNe
import Derived.Test.YtlmppdpjjkdoaabWAt
import Derived.Test.YtlmppdpjjkdoaabWEqStruct
import Derived.Test.YtlmppdpjjkdoaabWRepsOne
import Derived.Test.YtlmppdpjjkdoaabWInv
import Derived.Test.YtlmppdpjjkdoaabWInvWords
import Derived.Test.YtlmppdpjjkdoaabWGuard
import Derived.Test.YtlmppdpjjkdoaabWNEv
import Derived.Test.YtlmppdpjjkdoaabWMore
namespace Go.Proofs.Ytlmppdpjjkdoaab.PSiphashKeys
open Go.RowKit Go.Proofs.YtlmppdpjjkdoaabW.PrintWords Go.Proofs.YtlmppdpjjkdoaabW.PrintLast Go.Proofs.YtlmppdpjjkdoaabW.PrintMore
attribute [local go_sem] max2_int min2_int max_two min_two max_three min_three max_four min_four   -- for this text's walks alone
set_option linter.unusedVariables false
set_option linter.unusedSimpArgs false



def errW : Option Int → Value
  | none => .nilIface
  | some c => .iface 0 (.int .i64 c)
theorem errW_none : errW none = .nilIface := rfl
theorem errW_some (c : Int) : errW (some c) = .iface 0 (.int .i64 c) := rfl

-- the values' own types

end Go.Proofs.Ytlmppdpjjkdoaab.PSiphashKeys
