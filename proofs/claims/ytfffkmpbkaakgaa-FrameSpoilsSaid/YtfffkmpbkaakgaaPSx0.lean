/- WRITTEN BY A PROGRAM FOR THIS CLAIM (the kit's print, with functions that are given): what the Go functions named below come to. No condition beyond those that each contract says. -/
import Derived.Test.YtfffkmpbkaakgaaProg
import Derived.Below
import Derived.Deep.Draws
import Derived.Deep.AppendLies
import Derived.Maps.AppendAt
import Derived.OwnWalk
import Derived.Laws.BytesArg
import Derived.Laws.MakeOwn
import Derived.Laws.OwnMore
import Derived.Deep.OwnRows
import Derived.Tactics
import Derived.Lib.ConvBytes
import Derived.Laws.Slices
import Derived.WalkKit
import Derived.KernelRfl
import Derived.RowKit3
import Derived.Deep.LoopGhost
import Derived.Deep.QuietTactic
import Derived.BigQuiet
import Derived.WideLaws
import Derived.Deep.DeepCutAuto
import Derived.Deep.CutBlock
import Derived.Deep.RegionHeld3
import Derived.Laws.Rows
import Derived.Lib.AppendStr
import Derived.ArgAppend
import Derived.Laws.IdiomCopy
import Derived.OrdersHeld
import Derived.Laws.BitsLemmas
import Derived.RowKit
import Derived.Test.YtfffkmpbkaakgaaGiven1
import Derived.Test.YtfffkmpbkaakgaaWWords
import Derived.Test.YtfffkmpbkaakgaaWLast
import Derived.Test.YtfffkmpbkaakgaaWTab
import Derived.Test.YtfffkmpbkaakgaaWFour
import Derived.Test.YtfffkmpbkaakgaaWQPut
import Derived.Test.YtfffkmpbkaakgaaWApart
import Derived.Test.YtfffkmpbkaakgaaWArr
import Derived.Test.YtfffkmpbkaakgaaWZeros
import Derived.Test.YtfffkmpbkaakgaaWFoot
import Derived.Test.YtfffkmpbkaakgaaWKept
import Derived.Test.YtfffkmpbkaakgaaWShare
import Derived.Test.YtfffkmpbkaakgaaWN
import Derived.Test.YtfffkmpbkaakgaaWFootNe
import Derived.Test.YtfffkmpbkaakgaaWAt
import Derived.Test.YtfffkmpbkaakgaaWEqStruct
import Derived.Test.YtfffkmpbkaakgaaWRepsOne
import Derived.Test.YtfffkmpbkaakgaaWInv
import Derived.Test.YtfffkmpbkaakgaaWInvWords
import Derived.Test.YtfffkmpbkaakgaaWGuard
import Derived.Test.YtfffkmpbkaakgaaWNEv
import Derived.Test.YtfffkmpbkaakgaaWMore
namespace Go.Proofs.Ytfffkmpbkaakgaa.PS
open Go.RowKit Go.Proofs.YtfffkmpbkaakgaaW.PrintWords Go.Proofs.YtfffkmpbkaakgaaW.PrintLast Go.Proofs.YtfffkmpbkaakgaaW.PrintMore Go.Proofs.Ytfffkmpbkaakgaa.Given
attribute [local go_sem] max2_int min2_int max_two min_two max_three min_three max_four min_four   -- for this text's walks alone
set_option linter.unusedVariables false
set_option linter.unusedSimpArgs false



def errW : Option Int → Value
  | none => .nilIface
  | some c => .iface 0 (.int .i64 c)
theorem errW_none : errW none = .nilIface := rfl
theorem errW_some (c : Int) : errW (some c) = .iface 0 (.int .i64 c) := rfl

theorem info5 : (Try.prog.info? 5).map (fun i => (i.zero, i.size, i.bytes)) = some (some (.int .u8 0), 1, 1) := by kernel_rfl
-- the values' own types

end Go.Proofs.Ytfffkmpbkaakgaa.PS
