-- Printed by a program of ours (wip/tools/prn.py) out of the translation.
import Derived.Test.YtjlpclcdbnfikaaDoorProg
import Derived.Test.YtjlpclcdbnfikaaDoorAid
import Derived.Below
import Derived.Deep.Draws
import Derived.Deep.AppendLies
import Derived.Maps.AppendAt
import Derived.OwnWalk
import Derived.Laws.BytesArg
import Derived.Laws.MakeOwn
import Derived.Laws.OwnMore
import Derived.Deep.OwnRows
import Derived.Tactics
import Derived.Lib.ConvBytes
import Derived.Laws.Slices
import Derived.WalkKit
import Derived.KernelRfl
import Derived.RowKit3
import Derived.Deep.LoopGhost
import Derived.Deep.QuietTactic
import Derived.BigQuiet
import Derived.WideLaws
import Derived.Deep.DeepCutAuto
import Derived.Deep.CutBlock
import Derived.Deep.RegionHeld3
import Derived.Laws.Rows
import Derived.Lib.AppendStr
import Derived.ArgAppend
import Derived.Laws.IdiomCopy
import Derived.OrdersHeld
import Derived.Laws.BitsLemmas
import Derived.RowKit
import Derived.Test.YtjlpclcdbnfikaaDoorWWords
import Derived.Test.YtjlpclcdbnfikaaDoorWLast
import Derived.Test.YtjlpclcdbnfikaaDoorWTab
import Derived.Test.YtjlpclcdbnfikaaDoorWFour
import Derived.Test.YtjlpclcdbnfikaaDoorWQPut
import Derived.Test.YtjlpclcdbnfikaaDoorWApart
import Derived.Test.YtjlpclcdbnfikaaDoorWArr
import Derived.Test.YtjlpclcdbnfikaaDoorWZeros
import Derived.Test.YtjlpclcdbnfikaaDoorWFoot
import Derived.Test.YtjlpclcdbnfikaaDoorWKept
import Derived.Test.YtjlpclcdbnfikaaDoorWShare
import Derived.Test.YtjlpclcdbnfikaaDoorWN
import Derived.Test.YtjlpclcdbnfikaaDoorWFootNe
import Derived.Test.YtjlpclcdbnfikaaDoorWAt
import Derived.Test.YtjlpclcdbnfikaaDoorWEqStruct
import Derived.Test.YtjlpclcdbnfikaaDoorWRepsOne
import Derived.Test.YtjlpclcdbnfikaaDoorWInv
import Derived.Test.YtjlpclcdbnfikaaDoorWInvWords
import Derived.Test.YtjlpclcdbnfikaaDoorWGuard
import Derived.Test.YtjlpclcdbnfikaaDoorWNEv
import Derived.Test.YtjlpclcdbnfikaaDoorWMore
namespace Go.Proofs.YtjlpclcdbnfikaaDoor.P
open Go.RowKit Go.Proofs.YtjlpclcdbnfikaaDoorW.PrintWords Go.Proofs.YtjlpclcdbnfikaaDoorW.PrintLast Go.Proofs.YtjlpclcdbnfikaaDoorW.PrintMore
attribute [local go_sem] max2_int min2_int max_two min_two max_three min_three max_four min_four   -- for this text's walks alone
set_option linter.unusedVariables false
set_option linter.unusedSimpArgs false



def errW : Option Int → Value
  | none => .nilIface
  | some c => .iface 0 (.int .i64 c)
theorem errW_none : errW none = .nilIface := rfl
theorem errW_some (c : Int) : errW (some c) = .iface 0 (.int .i64 c) := rfl

theorem info9 : (Tryd.prog.info? 9).map (fun i => (i.zero, i.size, i.bytes)) = some (some (.string ⟨#[]⟩), 1, 16) := by kernel_rfl
theorem info50 : (Tryd.prog.info? 50).map (fun i => (i.zero, i.size, i.bytes)) = some (some (.int .u64 0), 1, 8) := by kernel_rfl
-- the values' own types

end Go.Proofs.YtjlpclcdbnfikaaDoor.P
