/- The functions that the laws use, as plain Lean functions, and that the calls of the program answer so; written by xprint.py. -/
import Derived.Test.YtienpgbbjahadaaProg
import Derived.Below
import Derived.Deep.Draws
import Derived.Deep.AppendLies
import Derived.Maps.AppendAt
import Derived.OwnWalk
import Derived.Laws.BytesArg
import Derived.Laws.MakeOwn
import Derived.Laws.OwnMore
import Derived.Deep.OwnRows
import Derived.Tactics
import Derived.Lib.ConvBytes
import Derived.Laws.Slices
import Derived.WalkKit
import Derived.KernelRfl
import Derived.RowKit3
import Derived.Deep.LoopGhost
import Derived.Deep.QuietTactic
import Derived.BigQuiet
import Derived.WideLaws
import Derived.Deep.DeepCutAuto
import Derived.Deep.CutBlock
import Derived.Deep.RegionHeld3
import Derived.Laws.Rows
import Derived.Lib.AppendStr
import Derived.ArgAppend
import Derived.Laws.IdiomCopy
import Derived.OrdersHeld
import Derived.Laws.BitsLemmas
import Derived.RowKit
import Derived.Test.YtienpgbbjahadaaWWords
import Derived.Test.YtienpgbbjahadaaWLast
import Derived.Test.YtienpgbbjahadaaWTab
import Derived.Test.YtienpgbbjahadaaWFour
import Derived.Test.YtienpgbbjahadaaWQPut
import Derived.Test.YtienpgbbjahadaaWApart
import Derived.Test.YtienpgbbjahadaaWArr
import Derived.Test.YtienpgbbjahadaaWZeros
import Derived.Test.YtienpgbbjahadaaWFoot
import Derived.Test.YtienpgbbjahadaaWKept
import Derived.Test.YtienpgbbjahadaaWShare
import Derived.Test.YtienpgbbjahadaaWN
import Derived.Test.YtienpgbbjahadaaWFootNe
import Derived.Test.YtienpgbbjahadaaWAt
import Derived.Test.YtienpgbbjahadaaWEqStruct
import Derived.Test.YtienpgbbjahadaaWRepsOne
import Derived.Test.YtienpgbbjahadaaWInv
import Derived.Test.YtienpgbbjahadaaWInvWords
import Derived.Test.YtienpgbbjahadaaWGuard
import Derived.Test.YtienpgbbjahadaaWNEv
import Derived.Test.YtienpgbbjahadaaWMore
import Derived.Test.YtienpgbbjahadaaXWords
import Derived.Test.YtienpgbbjahadaaXS
namespace Go.Proofs.Ytienpgbbjahadaa.PA
open Go.RowKit Go.Proofs.YtienpgbbjahadaaX Go.Proofs.YtienpgbbjahadaaW.PrintWords Go.Proofs.YtienpgbbjahadaaW.PrintLast Go.Proofs.YtienpgbbjahadaaW.PrintMore
attribute [local go_sem] max2_int min2_int max_two min_two max_three min_three max_four min_four xjump_ret xjump_normal xjump_exit xjump_panic xjump_goto   -- for this text's walks alone
set_option linter.unusedVariables false
set_option linter.unusedSimpArgs false



def errW : Option Int → Value
  | none => .nilIface
  | some c => .iface 0 (.int .i64 c)
theorem errW_none : errW none = .nilIface := rfl
theorem errW_some (c : Int) : errW (some c) = .iface 0 (.int .i64 c) := rfl

theorem info5 : (Try.prog.info? 5).map (fun i => (i.zero, i.size, i.bytes)) = some (some (.int .u8 0), 1, 1) := by kernel_rfl
theorem info9 : (Try.prog.info? 9).map (fun i => (i.zero, i.size, i.bytes)) = some (some (.string ⟨#[]⟩), 1, 16) := by kernel_rfl
theorem info42 : (Try.prog.info? 42).map (fun i => (i.zero, i.size, i.bytes)) = some (some (.int .u32 0), 1, 4) := by kernel_rfl
-- the values' own types

end Go.Proofs.Ytienpgbbjahadaa.PA
