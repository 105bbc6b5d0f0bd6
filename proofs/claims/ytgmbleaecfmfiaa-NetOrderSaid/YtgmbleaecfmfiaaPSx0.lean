/- WRITTEN BY A PROGRAM FOR THIS CLAIM (the kit's print, with functions that are given): what the Go functions named below come to. No condition beyond those that each contract says. -/
import Derived.Test.YtgmbleaecfmfiaaProg
import Derived.Below
import Derived.Deep.Draws
import Derived.Deep.AppendLies
import Derived.Maps.AppendAt
import Derived.OwnWalk
import Derived.Laws.BytesArg
import Derived.Laws.MakeOwn
import Derived.Laws.OwnMore
import Derived.Deep.OwnRows
import Derived.Tactics
import Derived.Lib.ConvBytes
import Derived.Laws.Slices
import Derived.WalkKit
import Derived.KernelRfl
import Derived.RowKit3
import Derived.Deep.LoopGhost
import Derived.Deep.QuietTactic
import Derived.BigQuiet
import Derived.WideLaws
import Derived.Deep.DeepCutAuto
import Derived.Deep.CutBlock
import Derived.Deep.RegionHeld3
import Derived.Laws.Rows
import Derived.Lib.AppendStr
import Derived.ArgAppend
import Derived.Laws.IdiomCopy
import Derived.OrdersHeld
import Derived.Laws.BitsLemmas
import Derived.RowKit
import Derived.Test.YtgmbleaecfmfiaaGiven1
import Derived.Test.YtgmbleaecfmfiaaWWords
import Derived.Test.YtgmbleaecfmfiaaWLast
import Derived.Test.YtgmbleaecfmfiaaWTab
import Derived.Test.YtgmbleaecfmfiaaWFour
import Derived.Test.YtgmbleaecfmfiaaWQPut
import Derived.Test.YtgmbleaecfmfiaaWApart
import Derived.Test.YtgmbleaecfmfiaaWArr
import Derived.Test.YtgmbleaecfmfiaaWZeros
import Derived.Test.YtgmbleaecfmfiaaWFoot
import Derived.Test.YtgmbleaecfmfiaaWKept
import Derived.Test.YtgmbleaecfmfiaaWShare
import Derived.Test.YtgmbleaecfmfiaaWN
import Derived.Test.YtgmbleaecfmfiaaWFootNe
import Derived.Test.YtgmbleaecfmfiaaWAt
import Derived.Test.YtgmbleaecfmfiaaWEqStruct
import Derived.Test.YtgmbleaecfmfiaaWRepsOne
import Derived.Test.YtgmbleaecfmfiaaWInv
import Derived.Test.YtgmbleaecfmfiaaWInvWords
import Derived.Test.YtgmbleaecfmfiaaWGuard
import Derived.Test.YtgmbleaecfmfiaaWNEv
import Derived.Test.YtgmbleaecfmfiaaWMore
namespace Go.Proofs.Ytgmbleaecfmfiaa.PS
open Go.RowKit Go.Proofs.YtgmbleaecfmfiaaW.PrintWords Go.Proofs.YtgmbleaecfmfiaaW.PrintLast Go.Proofs.YtgmbleaecfmfiaaW.PrintMore Go.Proofs.Ytgmbleaecfmfiaa.Given
attribute [local go_sem] max2_int min2_int max_two min_two max_three min_three max_four min_four   -- for this text's walks alone
set_option linter.unusedVariables false
set_option linter.unusedSimpArgs false



def errW : Option Int → Value
  | none => .nilIface
  | some c => .iface 0 (.int .i64 c)
theorem errW_none : errW none = .nilIface := rfl
theorem errW_some (c : Int) : errW (some c) = .iface 0 (.int .i64 c) := rfl

theorem info5 : (Try.prog.info? 5).map (fun i => (i.zero, i.size, i.bytes)) = some (some (.int .u8 0), 1, 1) := by kernel_rfl
-- the values' own types

end Go.Proofs.Ytgmbleaecfmfiaa.PS
