-- Written by wip/pw.py of this session, over the kit's print of loaded functions; Lean checks it.
import Derived.Test.YtfnibmcenjiodaaGreatDoorProg
import Derived.Below
import Derived.Deep.Draws
import Derived.Deep.AppendLies
import Derived.Maps.AppendAt
import Derived.OwnWalk
import Derived.Laws.BytesArg
import Derived.Laws.MakeOwn
import Derived.Laws.OwnMore
import Derived.Deep.OwnRows
import Derived.Tactics
import Derived.Lib.ConvBytes
import Derived.Laws.Slices
import Derived.WalkKit
import Derived.KernelRfl
import Derived.RowKit3
import Derived.Deep.LoopGhost
import Derived.Deep.QuietTactic
import Derived.BigQuiet
import Derived.WideLaws
import Derived.Deep.DeepCutAuto
import Derived.Deep.CutBlock
import Derived.Deep.RegionHeld3
import Derived.Laws.Rows
import Derived.Lib.AppendStr
import Derived.ArgAppend
import Derived.Laws.IdiomCopy
import Derived.OrdersHeld
import Derived.Laws.BitsLemmas
import Derived.RowKit
import Derived.Test.YtfnibmcenjiodaaGreatDoorWWords
import Derived.Test.YtfnibmcenjiodaaGreatDoorWLast
import Derived.Test.YtfnibmcenjiodaaGreatDoorWTab
import Derived.Test.YtfnibmcenjiodaaGreatDoorWFour
import Derived.Test.YtfnibmcenjiodaaGreatDoorWQPut
import Derived.Test.YtfnibmcenjiodaaGreatDoorWApart
import Derived.Test.YtfnibmcenjiodaaGreatDoorWArr
import Derived.Test.YtfnibmcenjiodaaGreatDoorWZeros
import Derived.Test.YtfnibmcenjiodaaGreatDoorWFoot
import Derived.Test.YtfnibmcenjiodaaGreatDoorWKept
import Derived.Test.YtfnibmcenjiodaaGreatDoorWShare
import Derived.Test.YtfnibmcenjiodaaGreatDoorWN
import Derived.Test.YtfnibmcenjiodaaGreatDoorWFootNe
import Derived.Test.YtfnibmcenjiodaaGreatDoorWAt
import Derived.Test.YtfnibmcenjiodaaGreatDoorWEqStruct
import Derived.Test.YtfnibmcenjiodaaGreatDoorWRepsOne
import Derived.Test.YtfnibmcenjiodaaGreatDoorWInv
import Derived.Test.YtfnibmcenjiodaaGreatDoorWInvWords
import Derived.Test.YtfnibmcenjiodaaGreatDoorWGuard
import Derived.Test.YtfnibmcenjiodaaGreatDoorWNEv
import Derived.Test.YtfnibmcenjiodaaGreatDoorWMore
namespace Go.Proofs.YtfnibmcenjiodaaGreatDoor.R
open Go.RowKit Go.Proofs.YtfnibmcenjiodaaGreatDoorW.PrintWords Go.Proofs.YtfnibmcenjiodaaGreatDoorW.PrintLast Go.Proofs.YtfnibmcenjiodaaGreatDoorW.PrintMore
attribute [local go_sem] max2_int min2_int max_two min_two max_three min_three max_four min_four   -- for this text's walks alone



def errW : Option Int → Value
  | none => .nilIface
  | some c => .iface 0 (.int .i64 c)
theorem errW_none : errW none = .nilIface := rfl
theorem errW_some (c : Int) : errW (some c) = .iface 0 (.int .i64 c) := rfl

theorem info3 : (Tryz.prog.info? 3).map (fun i => (i.zero, i.size, i.bytes)) = some (some (.int .i64 0), 1, 8) := by kernel_rfl
theorem info9 : (Tryz.prog.info? 9).map (fun i => (i.zero, i.size, i.bytes)) = some (some (.string ⟨#[]⟩), 1, 16) := by kernel_rfl
-- the values' own types

end Go.Proofs.YtfnibmcenjiodaaGreatDoor.R
