/- WRITTEN BY A PROGRAM FOR THIS CLAIM (the kit's print, with functions that are given): what the Go functions named below come to. No condition beyond those that each contract says. -/
import Derived.Test.YtkocogakihoclaaProg
import Derived.Below
import Derived.Deep.Draws
import Derived.Deep.AppendLies
import Derived.Maps.AppendAt
import Derived.OwnWalk
import Derived.Laws.BytesArg
import Derived.Laws.MakeOwn
import Derived.Laws.OwnMore
import Derived.Deep.OwnRows
import Derived.Tactics
import Derived.Lib.ConvBytes
import Derived.Laws.Slices
import Derived.WalkKit
import Derived.KernelRfl
import Derived.RowKit3
import Derived.Deep.LoopGhost
import Derived.Deep.QuietTactic
import Derived.BigQuiet
import Derived.WideLaws
import Derived.Deep.DeepCutAuto
import Derived.Deep.CutBlock
import Derived.Deep.RegionHeld3
import Derived.Laws.Rows
import Derived.Lib.AppendStr
import Derived.ArgAppend
import Derived.Laws.IdiomCopy
import Derived.OrdersHeld
import Derived.Laws.BitsLemmas
import Derived.RowKit
import Derived.Test.YtkocogakihoclaaGiven1
import Derived.Test.YtkocogakihoclaaWWords
import Derived.Test.YtkocogakihoclaaWLast
import Derived.Test.YtkocogakihoclaaWTab
import Derived.Test.YtkocogakihoclaaWFour
import Derived.Test.YtkocogakihoclaaWQPut
import Derived.Test.YtkocogakihoclaaWApart
import Derived.Test.YtkocogakihoclaaWArr
import Derived.Test.YtkocogakihoclaaWZeros
import Derived.Test.YtkocogakihoclaaWFoot
import Derived.Test.YtkocogakihoclaaWKept
import Derived.Test.YtkocogakihoclaaWShare
import Derived.Test.YtkocogakihoclaaWN
import Derived.Test.YtkocogakihoclaaWFootNe
import Derived.Test.YtkocogakihoclaaWAt
import Derived.Test.YtkocogakihoclaaWEqStruct
import Derived.Test.YtkocogakihoclaaWRepsOne
import Derived.Test.YtkocogakihoclaaWInv
import Derived.Test.YtkocogakihoclaaWInvWords
import Derived.Test.YtkocogakihoclaaWGuard
import Derived.Test.YtkocogakihoclaaWNEv
import Derived.Test.YtkocogakihoclaaWMore
namespace Go.Proofs.Ytkocogakihoclaa.PS
open Go.RowKit Go.Proofs.YtkocogakihoclaaW.PrintWords Go.Proofs.YtkocogakihoclaaW.PrintLast Go.Proofs.YtkocogakihoclaaW.PrintMore Go.Proofs.Ytkocogakihoclaa.Given
attribute [local go_sem] max2_int min2_int max_two min_two max_three min_three max_four min_four   -- for this text's walks alone
set_option linter.unusedVariables false
set_option linter.unusedSimpArgs false



def errW : Option Int → Value
  | none => .nilIface
  | some c => .iface 0 (.int .i64 c)
theorem errW_none : errW none = .nilIface := rfl
theorem errW_some (c : Int) : errW (some c) = .iface 0 (.int .i64 c) := rfl

theorem info5 : (Try.prog.info? 5).map (fun i => (i.zero, i.size, i.bytes)) = some (some (.int .u8 0), 1, 1) := by kernel_rfl
-- the values' own types

end Go.Proofs.Ytkocogakihoclaa.PS
