/-
  Closed facts of this seat's types. Laid by a program of ours.
-/
import Derived.Test.YtikgmgmphkalkaaDoorProg
import Derived.Test.YtikgmgmphkalkaaDoorLibE
set_option linter.all false
namespace Go.Proofs
open Go.Hx
theorem Tryd.mixed : Tryd.prog.follows .mixedOrders = true := by kernel_rfl
theorem Tryd.cells3 : Tryd.prog.cellsOf 3 = 1 := by kernel_rfl
theorem Tryd.bytes3 : Tryd.prog.bytesOf 3 = 8 := by kernel_rfl
theorem Tryd.zero3 : zeroA Tryd.prog 3 = some [.lit (.int .i64 0)] := by kernel_rfl
theorem Tryd.cells180 : Tryd.prog.cellsOf 180 = 1 := by kernel_rfl
theorem Tryd.zero180 : zeroA Tryd.prog 180 = some [.lit (.int .u64 0)] := by kernel_rfl
attribute [go_sem] Tryd.underlying3 Tryd.cells3 Tryd.bytes3 Tryd.zero3 Tryd.underlying4 Tryd.underlying5
attribute [go_sem] Tryd.underlying9 Tryd.underlying22 Tryd.underlying23
attribute [go_sem] Tryd.underlying24 Tryd.underlying25 Tryd.underlying26
attribute [go_sem] Tryd.underlying27 Tryd.underlying35 Tryd.underlying36
attribute [go_sem] Tryd.underlying37
attribute [go_sem] Tryd.underlying38 Tryd.underlying39
attribute [go_sem] Tryd.underlying40 Tryd.underlying41
attribute [go_sem] Tryd.underlying42 Tryd.underlying43
attribute [go_sem] Tryd.underlying44 Tryd.underlying45
attribute [go_sem] Tryd.underlying46 Tryd.underlying47
attribute [go_sem] Tryd.underlying48
attribute [go_sem] Tryd.underlying49 Tryd.underlying50
attribute [go_sem] Tryd.underlying54 Tryd.underlying56 Tryd.underlying57
attribute [go_sem] Tryd.underlying58 Tryd.underlying59 Tryd.underlying60
attribute [go_sem] Tryd.underlying61
attribute [go_sem] Tryd.underlying70 Tryd.underlying71
attribute [go_sem] Tryd.underlying72 Tryd.underlying73
attribute [go_sem] Tryd.underlying74
attribute [go_sem] Tryd.underlying75 Tryd.underlying81 Tryd.underlying82
attribute [go_sem] Tryd.underlying83 Tryd.underlying84 Tryd.underlying90
attribute [go_sem] Tryd.underlying91
attribute [go_sem] Tryd.underlying100 Tryd.underlying106 Tryd.underlying112
attribute [go_sem] Tryd.underlying119 Tryd.underlying123
attribute [go_sem] Tryd.underlying124 Tryd.underlying127
attribute [go_sem] Tryd.underlying128
attribute [go_sem] Tryd.underlying130 Tryd.underlying131
attribute [go_sem] Tryd.underlying152
attribute [go_sem] Tryd.underlying153
attribute [go_sem] Tryd.underlying161 Tryd.underlying164 Tryd.underlying168
attribute [go_sem] Tryd.underlying180 Tryd.cells180 Tryd.zero180
end Go.Proofs
