-- PRINTED BY print.sh 35421559b90ae4d0a3588c463048766b98c2df88dd9212a6774a882060cdf62d: not written by this session
import Derived.Test.YtlpgkkaeojnndaaProg
import Derived.Below
import Derived.Deep.Draws
import Derived.Deep.AppendLies
import Derived.Maps.AppendAt
import Derived.OwnWalk
import Derived.Laws.BytesArg
import Derived.Laws.MakeOwn
import Derived.Laws.OwnMore
import Derived.Deep.OwnRows
import Derived.Tactics
import Derived.Lib.ConvBytes
import Derived.Laws.Slices
import Derived.WalkKit
import Derived.KernelRfl
import Derived.RowKit3
import Derived.Deep.LoopGhost
import Derived.Deep.QuietTactic
import Derived.BigQuiet
import Derived.WideLaws
import Derived.Deep.DeepCutAuto
import Derived.Deep.CutBlock
import Derived.Deep.RegionHeld3
import Derived.Laws.Rows
import Derived.Lib.AppendStr
import Derived.ArgAppend
import Derived.Laws.IdiomCopy
import Derived.OrdersHeld
import Derived.Laws.BitsLemmas
import Derived.RowKit
import Derived.Test.YtlpgkkaeojnndaaWWords
import Derived.Test.YtlpgkkaeojnndaaWLast
import Derived.Test.YtlpgkkaeojnndaaWTab
import Derived.Test.YtlpgkkaeojnndaaWFour
import Derived.Test.YtlpgkkaeojnndaaWQPut
import Derived.Test.YtlpgkkaeojnndaaWApart
import Derived.Test.YtlpgkkaeojnndaaWArr
import Derived.Test.YtlpgkkaeojnndaaWZeros
import Derived.Test.YtlpgkkaeojnndaaWFoot
import Derived.Test.YtlpgkkaeojnndaaWKept
import Derived.Test.YtlpgkkaeojnndaaWShare
import Derived.Test.YtlpgkkaeojnndaaWN
import Derived.Test.YtlpgkkaeojnndaaWFootNe
import Derived.Test.YtlpgkkaeojnndaaWAt
import Derived.Test.YtlpgkkaeojnndaaWEqStruct
import Derived.Test.YtlpgkkaeojnndaaWRepsOne
import Derived.Test.YtlpgkkaeojnndaaWInv
import Derived.Test.YtlpgkkaeojnndaaWInvWords
import Derived.Test.YtlpgkkaeojnndaaWGuard
import Derived.Test.YtlpgkkaeojnndaaWNEv
import Derived.Test.YtlpgkkaeojnndaaWMore
namespace Go.Proofs.Ytlpgkkaeojnndaa.PRouteJoins
open Go.RowKit Go.Proofs.YtlpgkkaeojnndaaW.PrintWords Go.Proofs.YtlpgkkaeojnndaaW.PrintLast Go.Proofs.YtlpgkkaeojnndaaW.PrintMore
attribute [local go_sem] max2_int min2_int max_two min_two max_three min_three max_four min_four   -- for this text's walks alone
set_option linter.unusedVariables false
set_option linter.unusedSimpArgs false



def errW : Option Int → Value
  | none => .nilIface
  | some c => .iface 0 (.int .i64 c)
theorem errW_none : errW none = .nilIface := rfl
theorem errW_some (c : Int) : errW (some c) = .iface 0 (.int .i64 c) := rfl

theorem info9 : (Try.prog.info? 9).map (fun i => (i.zero, i.size, i.bytes)) = some (some (.string ⟨#[]⟩), 1, 16) := by kernel_rfl
-- the values' own types

end Go.Proofs.Ytlpgkkaeojnndaa.PRouteJoins
