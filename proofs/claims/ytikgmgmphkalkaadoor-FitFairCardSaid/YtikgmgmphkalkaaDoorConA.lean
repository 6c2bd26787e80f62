/-
  Closed facts of this seat's types. Laid by a program of ours.
-/
import Derived.Test.YtikgmgmphkalkaaDoorProg
import Derived.Test.YtikgmgmphkalkaaDoorLibE
set_option linter.all false
namespace Go.Proofs
open Go.Hx
theorem Tryd.mixed : Tryd.prog.follows .mixedOrders = true := by kernel_rfl
theorem Tryd.cells3 : Tryd.prog.cellsOf 3 = 1 := by kernel_rfl
theorem Tryd.bytes3 : Tryd.prog.bytesOf 3 = 8 := by kernel_rfl
theorem Tryd.zero3 : zeroA Tryd.prog 3 = some [.lit (.int .i64 0)] := by kernel_rfl
theorem Tryd.cells5 : Tryd.prog.cellsOf 5 = 1 := by kernel_rfl
theorem Tryd.cells22 : Tryd.prog.cellsOf 22 = 1 := by kernel_rfl
theorem Tryd.bytes22 : Tryd.prog.bytesOf 22 = 24 := by kernel_rfl
theorem Tryd.zero22 : zeroA Tryd.prog 22 = some [.lit (.slice none 0 0)] := by kernel_rfl
theorem Tryd.cells23 : Tryd.prog.cellsOf 23 = 1 := by kernel_rfl
theorem Tryd.cells27 : Tryd.prog.cellsOf 27 = 1 := by kernel_rfl
theorem Tryd.zero27 : zeroA Tryd.prog 27 = some [.lit (.int .i64 0)] := by kernel_rfl
theorem Tryd.cells35 : Tryd.prog.cellsOf 35 = 1 := by kernel_rfl
theorem Tryd.cells37 : Tryd.prog.cellsOf 37 = 4 := by kernel_rfl
theorem Tryd.field37_0 : fieldA Tryd.prog 37 0 = some (0, 23) := by kernel_rfl
theorem Tryd.field37_1 : fieldA Tryd.prog 37 1 = some (1, 35) := by kernel_rfl
theorem Tryd.field37_2 : fieldA Tryd.prog 37 2 = some (2, 5) := by kernel_rfl
theorem Tryd.field37_3 : fieldA Tryd.prog 37 3 = some (3, 23) := by kernel_rfl
theorem Tryd.cells41 : Tryd.prog.cellsOf 41 = 1 := by kernel_rfl
theorem Tryd.cells43 : Tryd.prog.cellsOf 43 = 8 := by kernel_rfl
theorem Tryd.field43_0 : fieldA Tryd.prog 43 0 = some (0, 5) := by kernel_rfl
theorem Tryd.field43_1 : fieldA Tryd.prog 43 1 = some (1, 40) := by kernel_rfl
theorem Tryd.field43_2 : fieldA Tryd.prog 43 2 = some (7, 41) := by kernel_rfl
theorem Tryd.cells44 : Tryd.prog.cellsOf 44 = 1 := by kernel_rfl
theorem Tryd.cells45 : Tryd.prog.cellsOf 45 = 3 := by kernel_rfl
theorem Tryd.cells48 : Tryd.prog.cellsOf 48 = 1 := by kernel_rfl
theorem Tryd.cells50 : Tryd.prog.cellsOf 50 = 2 := by kernel_rfl
theorem Tryd.zero50 : zeroA Tryd.prog 50 = some [.lit (.slice none 0 0), .lit (.slice none 0 0)] := by kernel_rfl
theorem Tryd.places50 : placesA Tryd.prog 50 = some [(0, 1), (1, 1)] := by kernel_rfl
theorem Tryd.field50_0 : fieldA Tryd.prog 50 0 = some (0, 22) := by kernel_rfl
theorem Tryd.field50_1 : fieldA Tryd.prog 50 1 = some (1, 48) := by kernel_rfl
theorem Tryd.cells59 : Tryd.prog.cellsOf 59 = 1 := by kernel_rfl
theorem Tryd.cells61 : Tryd.prog.cellsOf 61 = 2 := by kernel_rfl
theorem Tryd.zero61 : zeroA Tryd.prog 61 = some [.lit (.int .i64 0), .lit (.slice none 0 0)] := by kernel_rfl
theorem Tryd.places61 : placesA Tryd.prog 61 = some [(0, 1), (1, 1)] := by kernel_rfl
theorem Tryd.field61_0 : fieldA Tryd.prog 61 0 = some (0, 3) := by kernel_rfl
theorem Tryd.field61_1 : fieldA Tryd.prog 61 1 = some (1, 59) := by kernel_rfl
theorem Tryd.cells91 : Tryd.prog.cellsOf 91 = 3 := by kernel_rfl
theorem Tryd.bytes91 : Tryd.prog.bytesOf 91 = 56 := by kernel_rfl
theorem Tryd.zero91 : zeroA Tryd.prog 91 = some [.lit (.int .i64 0), .lit (.slice none 0 0), .lit (.slice none 0 0)] := by kernel_rfl
theorem Tryd.places91 : placesA Tryd.prog 91 = some [(0, 1), (1, 1), (2, 1)] := by kernel_rfl
theorem Tryd.field91_0 : fieldA Tryd.prog 91 0 = some (0, 3) := by kernel_rfl
theorem Tryd.field91_1 : fieldA Tryd.prog 91 1 = some (1, 22) := by kernel_rfl
theorem Tryd.field91_2 : fieldA Tryd.prog 91 2 = some (2, 48) := by kernel_rfl
theorem Tryd.cells100 : Tryd.prog.cellsOf 100 = 1 := by kernel_rfl
theorem Tryd.bytes100 : Tryd.prog.bytesOf 100 = 8 := by kernel_rfl
theorem Tryd.zero100 : zeroA Tryd.prog 100 = some [.lit (.int .u64 0)] := by kernel_rfl
theorem Tryd.cells112 : Tryd.prog.cellsOf 112 = 5 := by kernel_rfl
theorem Tryd.cells119 : Tryd.prog.cellsOf 119 = 1 := by kernel_rfl
theorem Tryd.zero119 : zeroA Tryd.prog 119 = some [.lit (.map none)] := by kernel_rfl
attribute [go_sem] Tryd.underlying3 Tryd.cells3 Tryd.bytes3 Tryd.zero3 Tryd.underlying4 Tryd.underlying5 Tryd.cells5
attribute [go_sem] Tryd.underlying9 Tryd.underlying22 Tryd.cells22 Tryd.bytes22 Tryd.zero22 Tryd.underlying23 Tryd.cells23
attribute [go_sem] Tryd.underlying24 Tryd.underlying25 Tryd.underlying26
attribute [go_sem] Tryd.underlying27 Tryd.cells27 Tryd.zero27 Tryd.underlying35 Tryd.cells35 Tryd.underlying36
attribute [go_sem] Tryd.underlying37 Tryd.cells37 Tryd.field37_0 Tryd.field37_1
attribute [go_sem] Tryd.field37_2 Tryd.field37_3 Tryd.underlying38 Tryd.underlying39
attribute [go_sem] Tryd.underlying40 Tryd.underlying41 Tryd.cells41
attribute [go_sem] Tryd.underlying42 Tryd.underlying43 Tryd.cells43
attribute [go_sem] Tryd.field43_0 Tryd.field43_1 Tryd.field43_2 Tryd.underlying44 Tryd.cells44 Tryd.underlying45 Tryd.cells45
attribute [go_sem] Tryd.underlying46 Tryd.underlying47
attribute [go_sem] Tryd.underlying48 Tryd.cells48
attribute [go_sem] Tryd.underlying49 Tryd.underlying50 Tryd.cells50 Tryd.zero50 Tryd.places50
attribute [go_sem] Tryd.field50_0 Tryd.field50_1 Tryd.underlying54 Tryd.underlying56 Tryd.underlying57
attribute [go_sem] Tryd.underlying58 Tryd.underlying59 Tryd.cells59 Tryd.underlying60
attribute [go_sem] Tryd.underlying61 Tryd.cells61 Tryd.zero61 Tryd.places61 Tryd.field61_0 Tryd.field61_1
attribute [go_sem] Tryd.underlying70 Tryd.underlying71
attribute [go_sem] Tryd.underlying72 Tryd.underlying73
attribute [go_sem] Tryd.underlying74
attribute [go_sem] Tryd.underlying75 Tryd.underlying81 Tryd.underlying82
attribute [go_sem] Tryd.underlying83 Tryd.underlying84 Tryd.underlying90
attribute [go_sem] Tryd.underlying91 Tryd.cells91 Tryd.bytes91 Tryd.zero91 Tryd.places91 Tryd.field91_0
attribute [go_sem] Tryd.field91_1 Tryd.field91_2 Tryd.underlying100 Tryd.cells100 Tryd.bytes100 Tryd.zero100 Tryd.underlying106 Tryd.underlying112 Tryd.cells112
attribute [go_sem] Tryd.underlying119 Tryd.cells119 Tryd.zero119 Tryd.underlying123
attribute [go_sem] Tryd.underlying124 Tryd.underlying127
attribute [go_sem] Tryd.underlying128
attribute [go_sem] Tryd.underlying130 Tryd.underlying131
attribute [go_sem] Tryd.underlying152
attribute [go_sem] Tryd.underlying153
attribute [go_sem] Tryd.underlying161 Tryd.underlying164 Tryd.underlying168
attribute [go_sem] Tryd.underlying180
end Go.Proofs
