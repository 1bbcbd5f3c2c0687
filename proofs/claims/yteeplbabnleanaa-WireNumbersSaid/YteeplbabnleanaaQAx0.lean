-- Written by a program of this session (wip/tools/ownprint.py) for this claim.
import Derived.Test.YteeplbabnleanaaProg
import Derived.Below
import Derived.Deep.Draws
import Derived.Deep.AppendLies
import Derived.Maps.AppendAt
import Derived.OwnWalk
import Derived.Laws.BytesArg
import Derived.Laws.MakeOwn
import Derived.Laws.OwnMore
import Derived.Deep.OwnRows
import Derived.Tactics
import Derived.Lib.ConvBytes
import Derived.Laws.Slices
import Derived.WalkKit
import Derived.KernelRfl
import Derived.RowKit3
import Derived.Deep.LoopGhost
import Derived.Deep.QuietTactic
import Derived.BigQuiet
import Derived.WideLaws
import Derived.Deep.DeepCutAuto
import Derived.Deep.CutBlock
import Derived.Deep.RegionHeld3
import Derived.Laws.Rows
import Derived.Lib.AppendStr
import Derived.ArgAppend
import Derived.Laws.IdiomCopy
import Derived.OrdersHeld
import Derived.Laws.BitsLemmas
import Derived.RowKit
import Derived.Test.YteeplbabnleanaaWWords
import Derived.Test.YteeplbabnleanaaWLast
import Derived.Test.YteeplbabnleanaaWTab
import Derived.Test.YteeplbabnleanaaWFour
import Derived.Test.YteeplbabnleanaaWQPut
import Derived.Test.YteeplbabnleanaaWApart
import Derived.Test.YteeplbabnleanaaWArr
import Derived.Test.YteeplbabnleanaaWZeros
import Derived.Test.YteeplbabnleanaaWFoot
import Derived.Test.YteeplbabnleanaaWKept
import Derived.Test.YteeplbabnleanaaWShare
import Derived.Test.YteeplbabnleanaaWN
import Derived.Test.YteeplbabnleanaaWFootNe
import Derived.Test.YteeplbabnleanaaWAt
import Derived.Test.YteeplbabnleanaaWEqStruct
import Derived.Test.YteeplbabnleanaaWRepsOne
import Derived.Test.YteeplbabnleanaaWInv
import Derived.Test.YteeplbabnleanaaWInvWords
import Derived.Test.YteeplbabnleanaaWGuard
import Derived.Test.YteeplbabnleanaaWNEv
import Derived.Test.YteeplbabnleanaaWMore
namespace Go.Proofs.Yteeplbabnleanaa.QA
open Go.RowKit Go.Proofs.YteeplbabnleanaaW.PrintWords Go.Proofs.YteeplbabnleanaaW.PrintLast Go.Proofs.YteeplbabnleanaaW.PrintMore
attribute [local go_sem] max2_int min2_int max_two min_two max_three min_three max_four min_four   -- for this text's walks alone
set_option linter.unusedVariables false
set_option linter.unusedSimpArgs false



def errW : Option Int → Value
  | none => .nilIface
  | some c => .iface 0 (.int .i64 c)
theorem errW_none : errW none = .nilIface := rfl
theorem errW_some (c : Int) : errW (some c) = .iface 0 (.int .i64 c) := rfl

theorem info5 : (Try.prog.info? 5).map (fun i => (i.zero, i.size, i.bytes)) = some (some (.int .u8 0), 1, 1) := by kernel_rfl
theorem info22 : (Try.prog.info? 22).map (fun i => (i.zero, i.size, i.bytes)) = some (some (.int .u64 0), 1, 8) := by kernel_rfl
theorem info25 : (Try.prog.info? 25).map (fun i => (i.zero, i.size, i.bytes)) = some (some (.int .u32 0), 1, 4) := by kernel_rfl
-- the values' own types

end Go.Proofs.Yteeplbabnleanaa.QA
