/-
  Closed facts of this seat's types. Laid by a program of ours.
-/
import Derived.Test.YtebhdkihcdmmjaaGreatProg
import Derived.Test.YtebhdkihcdmmjaaGreatLibE
import Derived.Test.YtebhdkihcdmmjaaGreatLibD
set_option linter.all false
namespace Go.Proofs
open Go.Hx
theorem Tryz.mixed : Tryz.prog.follows .mixedOrders = true := by kernel_rfl
theorem Tryz.cells3 : Tryz.prog.cellsOf 3 = 1 := by kernel_rfl
theorem Tryz.bytes3 : Tryz.prog.bytesOf 3 = 8 := by kernel_rfl
theorem Tryz.zero3 : zeroA Tryz.prog 3 = some [.lit (.int .i64 0)] := by kernel_rfl
theorem Tryz.cells4 : Tryz.prog.cellsOf 4 = 1 := by kernel_rfl
theorem Tryz.bytes4 : Tryz.prog.bytesOf 4 = 1 := by kernel_rfl
theorem Tryz.zero4 : zeroA Tryz.prog 4 = some [.lit (.bool false)] := by kernel_rfl
theorem Tryz.cells5 : Tryz.prog.cellsOf 5 = 1 := by kernel_rfl
theorem Tryz.bytes5 : Tryz.prog.bytesOf 5 = 1 := by kernel_rfl
theorem Tryz.zero5 : zeroA Tryz.prog 5 = some [.lit (.int .u8 0)] := by kernel_rfl
theorem Tryz.cells9 : Tryz.prog.cellsOf 9 = 1 := by kernel_rfl
theorem Tryz.bytes9 : Tryz.prog.bytesOf 9 = 16 := by kernel_rfl
theorem Tryz.zero9 : zeroA Tryz.prog 9 = some [.lit (.string ByteArray.empty)] := by kernel_rfl
theorem Tryz.cells20 : Tryz.prog.cellsOf 20 = 1 := by kernel_rfl
theorem Tryz.bytes20 : Tryz.prog.bytesOf 20 = 16 := by kernel_rfl
theorem Tryz.zero20 : zeroA Tryz.prog 20 = some [.lit .nilIface] := by kernel_rfl
theorem Tryz.cells22 : Tryz.prog.cellsOf 22 = 1 := by kernel_rfl
theorem Tryz.bytes22 : Tryz.prog.bytesOf 22 = 24 := by kernel_rfl
theorem Tryz.zero22 : zeroA Tryz.prog 22 = some [.lit (.slice none 0 0)] := by kernel_rfl
theorem Tryz.cells23 : Tryz.prog.cellsOf 23 = 1 := by kernel_rfl
theorem Tryz.bytes23 : Tryz.prog.bytesOf 23 = 24 := by kernel_rfl
theorem Tryz.zero23 : zeroA Tryz.prog 23 = some [.lit (.slice none 0 0)] := by kernel_rfl
theorem Tryz.cells24 : Tryz.prog.cellsOf 24 = 3 := by kernel_rfl
theorem Tryz.bytes24 : Tryz.prog.bytesOf 24 = 56 := by kernel_rfl
theorem Tryz.zero24 : zeroA Tryz.prog 24 = some [.lit (.int .u8 0), .lit (.slice none 0 0), .lit (.slice none 0 0)] := by kernel_rfl
theorem Tryz.places24 : placesA Tryz.prog 24 = some [(0, 1), (1, 1), (2, 1)] := by kernel_rfl
theorem Tryz.field24_0 : fieldA Tryz.prog 24 0 = some (0, 5) := by kernel_rfl
theorem Tryz.field24_1 : fieldA Tryz.prog 24 1 = some (1, 22) := by kernel_rfl
theorem Tryz.field24_2 : fieldA Tryz.prog 24 2 = some (2, 23) := by kernel_rfl
theorem Tryz.cells25 : Tryz.prog.cellsOf 25 = 3 := by kernel_rfl
theorem Tryz.bytes25 : Tryz.prog.bytesOf 25 = 56 := by kernel_rfl
theorem Tryz.zero25 : zeroA Tryz.prog 25 = some [.lit (.int .u8 0), .lit (.slice none 0 0), .lit (.slice none 0 0)] := by kernel_rfl
theorem Tryz.places25 : placesA Tryz.prog 25 = some [(0, 1), (1, 1), (2, 1)] := by kernel_rfl
theorem Tryz.field25_0 : fieldA Tryz.prog 25 0 = some (0, 5) := by kernel_rfl
theorem Tryz.field25_1 : fieldA Tryz.prog 25 1 = some (1, 22) := by kernel_rfl
theorem Tryz.field25_2 : fieldA Tryz.prog 25 2 = some (2, 23) := by kernel_rfl
theorem Tryz.cells26 : Tryz.prog.cellsOf 26 = 1 := by kernel_rfl
theorem Tryz.bytes26 : Tryz.prog.bytesOf 26 = 24 := by kernel_rfl
theorem Tryz.zero26 : zeroA Tryz.prog 26 = some [.lit (.slice none 0 0)] := by kernel_rfl
theorem Tryz.cells27 : Tryz.prog.cellsOf 27 = 6 := by kernel_rfl
theorem Tryz.bytes27 : Tryz.prog.bytesOf 27 = 88 := by kernel_rfl
theorem Tryz.zero27 : zeroA Tryz.prog 27 = some [.lit (.int .u8 0), .lit (.slice none 0 0), .lit (.slice none 0 0), .lit (.int .u8 0), .lit (.bool false), .lit (.slice none 0 0)] := by kernel_rfl
theorem Tryz.places27 : placesA Tryz.prog 27 = some [(0, 3), (3, 1), (4, 1), (5, 1)] := by kernel_rfl
theorem Tryz.field27_0 : fieldA Tryz.prog 27 0 = some (0, 25) := by kernel_rfl
theorem Tryz.field27_1 : fieldA Tryz.prog 27 1 = some (3, 5) := by kernel_rfl
theorem Tryz.field27_2 : fieldA Tryz.prog 27 2 = some (4, 4) := by kernel_rfl
theorem Tryz.field27_3 : fieldA Tryz.prog 27 3 = some (5, 26) := by kernel_rfl
theorem Tryz.cells28 : Tryz.prog.cellsOf 28 = 6 := by kernel_rfl
theorem Tryz.bytes28 : Tryz.prog.bytesOf 28 = 88 := by kernel_rfl
theorem Tryz.zero28 : zeroA Tryz.prog 28 = some [.lit (.int .u8 0), .lit (.slice none 0 0), .lit (.slice none 0 0), .lit (.int .u8 0), .lit (.bool false), .lit (.slice none 0 0)] := by kernel_rfl
theorem Tryz.places28 : placesA Tryz.prog 28 = some [(0, 3), (3, 1), (4, 1), (5, 1)] := by kernel_rfl
theorem Tryz.field28_0 : fieldA Tryz.prog 28 0 = some (0, 25) := by kernel_rfl
theorem Tryz.field28_1 : fieldA Tryz.prog 28 1 = some (3, 5) := by kernel_rfl
theorem Tryz.field28_2 : fieldA Tryz.prog 28 2 = some (4, 4) := by kernel_rfl
theorem Tryz.field28_3 : fieldA Tryz.prog 28 3 = some (5, 26) := by kernel_rfl
theorem Tryz.cells29 : Tryz.prog.cellsOf 29 = 4 := by kernel_rfl
theorem Tryz.bytes29 : Tryz.prog.bytesOf 29 = 16 := by kernel_rfl
theorem Tryz.zero29 : zeroA Tryz.prog 29 = some [.lit (.int .u8 0), .lit (.int .u8 0), .lit (.int .u8 0), .lit (.int .i64 0)] := by kernel_rfl
theorem Tryz.places29 : placesA Tryz.prog 29 = some [(0, 1), (1, 1), (2, 1), (3, 1)] := by kernel_rfl
theorem Tryz.field29_0 : fieldA Tryz.prog 29 0 = some (0, 5) := by kernel_rfl
theorem Tryz.field29_1 : fieldA Tryz.prog 29 1 = some (1, 5) := by kernel_rfl
theorem Tryz.field29_2 : fieldA Tryz.prog 29 2 = some (2, 5) := by kernel_rfl
theorem Tryz.field29_3 : fieldA Tryz.prog 29 3 = some (3, 3) := by kernel_rfl
theorem Tryz.cells30 : Tryz.prog.cellsOf 30 = 4 := by kernel_rfl
theorem Tryz.bytes30 : Tryz.prog.bytesOf 30 = 16 := by kernel_rfl
theorem Tryz.zero30 : zeroA Tryz.prog 30 = some [.lit (.int .u8 0), .lit (.int .u8 0), .lit (.int .u8 0), .lit (.int .i64 0)] := by kernel_rfl
theorem Tryz.places30 : placesA Tryz.prog 30 = some [(0, 1), (1, 1), (2, 1), (3, 1)] := by kernel_rfl
theorem Tryz.field30_0 : fieldA Tryz.prog 30 0 = some (0, 5) := by kernel_rfl
theorem Tryz.field30_1 : fieldA Tryz.prog 30 1 = some (1, 5) := by kernel_rfl
theorem Tryz.field30_2 : fieldA Tryz.prog 30 2 = some (2, 5) := by kernel_rfl
theorem Tryz.field30_3 : fieldA Tryz.prog 30 3 = some (3, 3) := by kernel_rfl
theorem Tryz.cells31 : Tryz.prog.cellsOf 31 = 6 := by kernel_rfl
theorem Tryz.bytes31 : Tryz.prog.bytesOf 31 = 32 := by kernel_rfl
theorem Tryz.zero31 : zeroA Tryz.prog 31 = some [.lit (.int .u8 0), .lit (.int .u8 0), .lit (.int .u8 0), .lit (.int .u8 0), .lit (.int .i64 0), .lit (.int .i64 0)] := by kernel_rfl
theorem Tryz.places31 : placesA Tryz.prog 31 = some [(0, 1), (1, 4), (5, 1)] := by kernel_rfl
theorem Tryz.field31_0 : fieldA Tryz.prog 31 0 = some (0, 5) := by kernel_rfl
theorem Tryz.field31_1 : fieldA Tryz.prog 31 1 = some (1, 30) := by kernel_rfl
theorem Tryz.field31_2 : fieldA Tryz.prog 31 2 = some (5, 3) := by kernel_rfl
theorem Tryz.cells32 : Tryz.prog.cellsOf 32 = 6 := by kernel_rfl
theorem Tryz.bytes32 : Tryz.prog.bytesOf 32 = 32 := by kernel_rfl
theorem Tryz.zero32 : zeroA Tryz.prog 32 = some [.lit (.int .u8 0), .lit (.int .u8 0), .lit (.int .u8 0), .lit (.int .u8 0), .lit (.int .i64 0), .lit (.int .i64 0)] := by kernel_rfl
theorem Tryz.places32 : placesA Tryz.prog 32 = some [(0, 1), (1, 4), (5, 1)] := by kernel_rfl
theorem Tryz.field32_0 : fieldA Tryz.prog 32 0 = some (0, 5) := by kernel_rfl
theorem Tryz.field32_1 : fieldA Tryz.prog 32 1 = some (1, 30) := by kernel_rfl
theorem Tryz.field32_2 : fieldA Tryz.prog 32 2 = some (5, 3) := by kernel_rfl
theorem Tryz.cells33 : Tryz.prog.cellsOf 33 = 12 := by kernel_rfl
theorem Tryz.bytes33 : Tryz.prog.bytesOf 33 = 64 := by kernel_rfl
theorem Tryz.zero33 : zeroA Tryz.prog 33 = some [.lit (.int .u8 0), .lit (.int .u8 0), .lit (.int .u8 0), .lit (.int .u8 0), .lit (.int .i64 0), .lit (.int .i64 0), .lit (.int .u8 0), .lit (.int .u8 0), .lit (.int .u8 0), .lit (.int .u8 0), .lit (.int .i64 0), .lit (.int .i64 0)] := by kernel_rfl
theorem Tryz.cells34 : Tryz.prog.cellsOf 34 = 1 := by kernel_rfl
theorem Tryz.bytes34 : Tryz.prog.bytesOf 34 = 8 := by kernel_rfl
theorem Tryz.zero34 : zeroA Tryz.prog 34 = some [.lit (.int .u64 0)] := by kernel_rfl
theorem Tryz.cells35 : Tryz.prog.cellsOf 35 = 1 := by kernel_rfl
theorem Tryz.bytes35 : Tryz.prog.bytesOf 35 = 24 := by kernel_rfl
theorem Tryz.zero35 : zeroA Tryz.prog 35 = some [.lit (.slice none 0 0)] := by kernel_rfl
theorem Tryz.cells36 : Tryz.prog.cellsOf 36 = 1 := by kernel_rfl
theorem Tryz.bytes36 : Tryz.prog.bytesOf 36 = 24 := by kernel_rfl
theorem Tryz.zero36 : zeroA Tryz.prog 36 = some [.lit (.slice none 0 0)] := by kernel_rfl
theorem Tryz.cells37 : Tryz.prog.cellsOf 37 = 4 := by kernel_rfl
theorem Tryz.bytes37 : Tryz.prog.bytesOf 37 = 64 := by kernel_rfl
theorem Tryz.zero37 : zeroA Tryz.prog 37 = some [.lit (.int .i64 0), .lit (.slice none 0 0), .lit (.int .u64 0), .lit (.slice none 0 0)] := by kernel_rfl
theorem Tryz.places37 : placesA Tryz.prog 37 = some [(0, 1), (1, 1), (2, 1), (3, 1)] := by kernel_rfl
theorem Tryz.field37_0 : fieldA Tryz.prog 37 0 = some (0, 3) := by kernel_rfl
theorem Tryz.field37_1 : fieldA Tryz.prog 37 1 = some (1, 35) := by kernel_rfl
theorem Tryz.field37_2 : fieldA Tryz.prog 37 2 = some (2, 34) := by kernel_rfl
theorem Tryz.field37_3 : fieldA Tryz.prog 37 3 = some (3, 36) := by kernel_rfl
theorem Tryz.cells38 : Tryz.prog.cellsOf 38 = 4 := by kernel_rfl
theorem Tryz.bytes38 : Tryz.prog.bytesOf 38 = 64 := by kernel_rfl
theorem Tryz.zero38 : zeroA Tryz.prog 38 = some [.lit (.int .i64 0), .lit (.slice none 0 0), .lit (.int .u64 0), .lit (.slice none 0 0)] := by kernel_rfl
theorem Tryz.places38 : placesA Tryz.prog 38 = some [(0, 1), (1, 1), (2, 1), (3, 1)] := by kernel_rfl
theorem Tryz.field38_0 : fieldA Tryz.prog 38 0 = some (0, 3) := by kernel_rfl
theorem Tryz.field38_1 : fieldA Tryz.prog 38 1 = some (1, 35) := by kernel_rfl
theorem Tryz.field38_2 : fieldA Tryz.prog 38 2 = some (2, 34) := by kernel_rfl
theorem Tryz.field38_3 : fieldA Tryz.prog 38 3 = some (3, 36) := by kernel_rfl
theorem Tryz.cells41 : Tryz.prog.cellsOf 41 = 12 := by kernel_rfl
theorem Tryz.bytes41 : Tryz.prog.bytesOf 41 = 192 := by kernel_rfl
theorem Tryz.zero41 : zeroA Tryz.prog 41 = some [.lit (.int .i64 0), .lit (.slice none 0 0), .lit (.int .u64 0), .lit (.slice none 0 0), .lit (.int .i64 0), .lit (.slice none 0 0), .lit (.int .u64 0), .lit (.slice none 0 0), .lit (.int .i64 0), .lit (.slice none 0 0), .lit (.int .u64 0), .lit (.slice none 0 0)] := by kernel_rfl
theorem Tryz.cells43 : Tryz.prog.cellsOf 43 = 2 := by kernel_rfl
theorem Tryz.bytes43 : Tryz.prog.bytesOf 43 = 16 := by kernel_rfl
theorem Tryz.zero43 : zeroA Tryz.prog 43 = some [.lit (.int .i64 0), .lit (.int .i64 0)] := by kernel_rfl
theorem Tryz.cells44 : Tryz.prog.cellsOf 44 = 1 := by kernel_rfl
theorem Tryz.bytes44 : Tryz.prog.bytesOf 44 = 8 := by kernel_rfl
theorem Tryz.zero44 : zeroA Tryz.prog 44 = some [.lit (.int .i64 0)] := by kernel_rfl
theorem Tryz.cells49 : Tryz.prog.cellsOf 49 = 2 := by kernel_rfl
theorem Tryz.bytes49 : Tryz.prog.bytesOf 49 = 16 := by kernel_rfl
theorem Tryz.zero49 : zeroA Tryz.prog 49 = some [.lit (.int .u64 0), .lit (.int .u64 0)] := by kernel_rfl
theorem Tryz.cells56 : Tryz.prog.cellsOf 56 = 8 := by kernel_rfl
theorem Tryz.bytes56 : Tryz.prog.bytesOf 56 = 128 := by kernel_rfl
theorem Tryz.zero56 : zeroA Tryz.prog 56 = some [.lit (.int .i64 0), .lit (.slice none 0 0), .lit (.int .u64 0), .lit (.slice none 0 0), .lit (.int .i64 0), .lit (.slice none 0 0), .lit (.int .u64 0), .lit (.slice none 0 0)] := by kernel_rfl
theorem Tryz.cells57 : Tryz.prog.cellsOf 57 = 2 := by kernel_rfl
theorem Tryz.bytes57 : Tryz.prog.bytesOf 57 = 16 := by kernel_rfl
theorem Tryz.zero57 : zeroA Tryz.prog 57 = some [.lit (.int .i64 0), .lit (.int .i64 0)] := by kernel_rfl
theorem Tryz.places57 : placesA Tryz.prog 57 = some [(0, 1), (1, 1)] := by kernel_rfl
theorem Tryz.field57_0 : fieldA Tryz.prog 57 0 = some (0, 3) := by kernel_rfl
theorem Tryz.field57_1 : fieldA Tryz.prog 57 1 = some (1, 3) := by kernel_rfl
theorem Tryz.cells58 : Tryz.prog.cellsOf 58 = 2 := by kernel_rfl
theorem Tryz.bytes58 : Tryz.prog.bytesOf 58 = 16 := by kernel_rfl
theorem Tryz.zero58 : zeroA Tryz.prog 58 = some [.lit (.int .i64 0), .lit (.int .i64 0)] := by kernel_rfl
theorem Tryz.places58 : placesA Tryz.prog 58 = some [(0, 1), (1, 1)] := by kernel_rfl
theorem Tryz.field58_0 : fieldA Tryz.prog 58 0 = some (0, 3) := by kernel_rfl
theorem Tryz.field58_1 : fieldA Tryz.prog 58 1 = some (1, 3) := by kernel_rfl
theorem Tryz.cells63 : Tryz.prog.cellsOf 63 = 2 := by kernel_rfl
theorem Tryz.bytes63 : Tryz.prog.bytesOf 63 = 2 := by kernel_rfl
theorem Tryz.zero63 : zeroA Tryz.prog 63 = some [.lit (.int .u8 0), .lit (.int .u8 0)] := by kernel_rfl
theorem Tryz.cells65 : Tryz.prog.cellsOf 65 = 4 := by kernel_rfl
theorem Tryz.bytes65 : Tryz.prog.bytesOf 65 = 32 := by kernel_rfl
theorem Tryz.zero65 : zeroA Tryz.prog 65 = some [.lit (.int .i64 0), .lit (.int .i64 0), .lit (.int .i64 0), .lit (.int .i64 0)] := by kernel_rfl
theorem Tryz.cells68 : Tryz.prog.cellsOf 68 = 1 := by kernel_rfl
theorem Tryz.bytes68 : Tryz.prog.bytesOf 68 = 8 := by kernel_rfl
theorem Tryz.zero68 : zeroA Tryz.prog 68 = some [.lit .nilFunc] := by kernel_rfl
theorem Tryz.cells72 : Tryz.prog.cellsOf 72 = 1 := by kernel_rfl
theorem Tryz.bytes72 : Tryz.prog.bytesOf 72 = 24 := by kernel_rfl
theorem Tryz.zero72 : zeroA Tryz.prog 72 = some [.lit (.slice none 0 0)] := by kernel_rfl
theorem Tryz.cells74 : Tryz.prog.cellsOf 74 = 1 := by kernel_rfl
theorem Tryz.bytes74 : Tryz.prog.bytesOf 74 = 24 := by kernel_rfl
theorem Tryz.zero74 : zeroA Tryz.prog 74 = some [.lit (.slice none 0 0)] := by kernel_rfl
theorem Tryz.cells75 : Tryz.prog.cellsOf 75 = 3 := by kernel_rfl
theorem Tryz.bytes75 : Tryz.prog.bytesOf 75 = 56 := by kernel_rfl
theorem Tryz.zero75 : zeroA Tryz.prog 75 = some [.lit (.int .i64 0), .lit (.slice none 0 0), .lit (.slice none 0 0)] := by kernel_rfl
theorem Tryz.places75 : placesA Tryz.prog 75 = some [(0, 1), (1, 1), (2, 1)] := by kernel_rfl
theorem Tryz.field75_0 : fieldA Tryz.prog 75 0 = some (0, 3) := by kernel_rfl
theorem Tryz.field75_1 : fieldA Tryz.prog 75 1 = some (1, 72) := by kernel_rfl
theorem Tryz.field75_2 : fieldA Tryz.prog 75 2 = some (2, 74) := by kernel_rfl
theorem Tryz.cells76 : Tryz.prog.cellsOf 76 = 3 := by kernel_rfl
theorem Tryz.bytes76 : Tryz.prog.bytesOf 76 = 56 := by kernel_rfl
theorem Tryz.zero76 : zeroA Tryz.prog 76 = some [.lit (.int .i64 0), .lit (.slice none 0 0), .lit (.slice none 0 0)] := by kernel_rfl
theorem Tryz.places76 : placesA Tryz.prog 76 = some [(0, 1), (1, 1), (2, 1)] := by kernel_rfl
theorem Tryz.field76_0 : fieldA Tryz.prog 76 0 = some (0, 3) := by kernel_rfl
theorem Tryz.field76_1 : fieldA Tryz.prog 76 1 = some (1, 72) := by kernel_rfl
theorem Tryz.field76_2 : fieldA Tryz.prog 76 2 = some (2, 74) := by kernel_rfl
theorem Tryz.cells86 : Tryz.prog.cellsOf 86 = 2 := by kernel_rfl
theorem Tryz.bytes86 : Tryz.prog.bytesOf 86 = 48 := by kernel_rfl
theorem Tryz.zero86 : zeroA Tryz.prog 86 = some [.lit (.slice none 0 0), .lit (.slice none 0 0)] := by kernel_rfl
theorem Tryz.places86 : placesA Tryz.prog 86 = some [(0, 1), (1, 1)] := by kernel_rfl
theorem Tryz.field86_0 : fieldA Tryz.prog 86 0 = some (0, 72) := by kernel_rfl
theorem Tryz.field86_1 : fieldA Tryz.prog 86 1 = some (1, 72) := by kernel_rfl
theorem Tryz.cells87 : Tryz.prog.cellsOf 87 = 2 := by kernel_rfl
theorem Tryz.bytes87 : Tryz.prog.bytesOf 87 = 48 := by kernel_rfl
theorem Tryz.zero87 : zeroA Tryz.prog 87 = some [.lit (.slice none 0 0), .lit (.slice none 0 0)] := by kernel_rfl
theorem Tryz.places87 : placesA Tryz.prog 87 = some [(0, 1), (1, 1)] := by kernel_rfl
theorem Tryz.field87_0 : fieldA Tryz.prog 87 0 = some (0, 72) := by kernel_rfl
theorem Tryz.field87_1 : fieldA Tryz.prog 87 1 = some (1, 72) := by kernel_rfl
theorem Tryz.cells89 : Tryz.prog.cellsOf 89 = 2 := by kernel_rfl
theorem Tryz.bytes89 : Tryz.prog.bytesOf 89 = 32 := by kernel_rfl
theorem Tryz.zero89 : zeroA Tryz.prog 89 = some [.lit (.int .i64 0), .lit (.slice none 0 0)] := by kernel_rfl
theorem Tryz.places89 : placesA Tryz.prog 89 = some [(0, 1), (1, 1)] := by kernel_rfl
theorem Tryz.field89_0 : fieldA Tryz.prog 89 0 = some (0, 3) := by kernel_rfl
theorem Tryz.field89_1 : fieldA Tryz.prog 89 1 = some (1, 35) := by kernel_rfl
theorem Tryz.cells90 : Tryz.prog.cellsOf 90 = 2 := by kernel_rfl
theorem Tryz.bytes90 : Tryz.prog.bytesOf 90 = 32 := by kernel_rfl
theorem Tryz.zero90 : zeroA Tryz.prog 90 = some [.lit (.int .i64 0), .lit (.slice none 0 0)] := by kernel_rfl
theorem Tryz.places90 : placesA Tryz.prog 90 = some [(0, 1), (1, 1)] := by kernel_rfl
theorem Tryz.field90_0 : fieldA Tryz.prog 90 0 = some (0, 3) := by kernel_rfl
theorem Tryz.field90_1 : fieldA Tryz.prog 90 1 = some (1, 35) := by kernel_rfl
theorem Tryz.cells93 : Tryz.prog.cellsOf 93 = 1 := by kernel_rfl
theorem Tryz.bytes93 : Tryz.prog.bytesOf 93 = 24 := by kernel_rfl
theorem Tryz.zero93 : zeroA Tryz.prog 93 = some [.lit (.slice none 0 0)] := by kernel_rfl
theorem Tryz.cells96 : Tryz.prog.cellsOf 96 = 1 := by kernel_rfl
theorem Tryz.bytes96 : Tryz.prog.bytesOf 96 = 24 := by kernel_rfl
theorem Tryz.zero96 : zeroA Tryz.prog 96 = some [.lit (.slice none 0 0)] := by kernel_rfl
theorem Tryz.cells97 : Tryz.prog.cellsOf 97 = 2 := by kernel_rfl
theorem Tryz.bytes97 : Tryz.prog.bytesOf 97 = 32 := by kernel_rfl
theorem Tryz.zero97 : zeroA Tryz.prog 97 = some [.lit (.int .u8 0), .lit (.slice none 0 0)] := by kernel_rfl
theorem Tryz.places97 : placesA Tryz.prog 97 = some [(0, 1), (1, 1)] := by kernel_rfl
theorem Tryz.field97_0 : fieldA Tryz.prog 97 0 = some (0, 5) := by kernel_rfl
theorem Tryz.field97_1 : fieldA Tryz.prog 97 1 = some (1, 96) := by kernel_rfl
theorem Tryz.cells98 : Tryz.prog.cellsOf 98 = 2 := by kernel_rfl
theorem Tryz.bytes98 : Tryz.prog.bytesOf 98 = 32 := by kernel_rfl
theorem Tryz.zero98 : zeroA Tryz.prog 98 = some [.lit (.int .u8 0), .lit (.slice none 0 0)] := by kernel_rfl
theorem Tryz.places98 : placesA Tryz.prog 98 = some [(0, 1), (1, 1)] := by kernel_rfl
theorem Tryz.field98_0 : fieldA Tryz.prog 98 0 = some (0, 5) := by kernel_rfl
theorem Tryz.field98_1 : fieldA Tryz.prog 98 1 = some (1, 96) := by kernel_rfl
theorem Tryz.cells101 : Tryz.prog.cellsOf 101 = 1 := by kernel_rfl
theorem Tryz.bytes101 : Tryz.prog.bytesOf 101 = 8 := by kernel_rfl
theorem Tryz.zero101 : zeroA Tryz.prog 101 = some [.lit (.pointer none)] := by kernel_rfl
theorem Tryz.cells122 : Tryz.prog.cellsOf 122 = 1 := by kernel_rfl
theorem Tryz.bytes122 : Tryz.prog.bytesOf 122 = 8 := by kernel_rfl
theorem Tryz.zero122 : zeroA Tryz.prog 122 = some [.lit .nilFunc] := by kernel_rfl
theorem Tryz.cells134 : Tryz.prog.cellsOf 134 = 1 := by kernel_rfl
theorem Tryz.bytes134 : Tryz.prog.bytesOf 134 = 8 := by kernel_rfl
theorem Tryz.zero134 : zeroA Tryz.prog 134 = some [.lit (.pointer none)] := by kernel_rfl
theorem Tryz.cells140 : Tryz.prog.cellsOf 140 = 1 := by kernel_rfl
theorem Tryz.bytes140 : Tryz.prog.bytesOf 140 = 4 := by kernel_rfl
theorem Tryz.zero140 : zeroA Tryz.prog 140 = some [.lit (.int .u32 0)] := by kernel_rfl
theorem Tryz.cells142 : Tryz.prog.cellsOf 142 = 1 := by kernel_rfl
theorem Tryz.bytes142 : Tryz.prog.bytesOf 142 = 8 := by kernel_rfl
theorem Tryz.zero142 : zeroA Tryz.prog 142 = some [.lit (.int .u64 0)] := by kernel_rfl
theorem Tryz.cells143 : Tryz.prog.cellsOf 143 = 1 := by kernel_rfl
theorem Tryz.bytes143 : Tryz.prog.bytesOf 143 = 2 := by kernel_rfl
theorem Tryz.zero143 : zeroA Tryz.prog 143 = some [.lit (.int .u16 0)] := by kernel_rfl
theorem Tryz.cells144 : Tryz.prog.cellsOf 144 = 3 := by kernel_rfl
theorem Tryz.bytes144 : Tryz.prog.bytesOf 144 = 56 := by kernel_rfl
theorem Tryz.zero144 : zeroA Tryz.prog 144 = some [.lit (.slice none 0 0), .lit (.int .u16 0), .lit (.slice none 0 0)] := by kernel_rfl
theorem Tryz.places144 : placesA Tryz.prog 144 = some [(0, 1), (1, 1), (2, 1)] := by kernel_rfl
theorem Tryz.field144_0 : fieldA Tryz.prog 144 0 = some (0, 23) := by kernel_rfl
theorem Tryz.field144_1 : fieldA Tryz.prog 144 1 = some (1, 143) := by kernel_rfl
theorem Tryz.field144_2 : fieldA Tryz.prog 144 2 = some (2, 23) := by kernel_rfl
theorem Tryz.cells145 : Tryz.prog.cellsOf 145 = 3 := by kernel_rfl
theorem Tryz.bytes145 : Tryz.prog.bytesOf 145 = 56 := by kernel_rfl
theorem Tryz.zero145 : zeroA Tryz.prog 145 = some [.lit (.slice none 0 0), .lit (.int .u16 0), .lit (.slice none 0 0)] := by kernel_rfl
theorem Tryz.places145 : placesA Tryz.prog 145 = some [(0, 1), (1, 1), (2, 1)] := by kernel_rfl
theorem Tryz.field145_0 : fieldA Tryz.prog 145 0 = some (0, 23) := by kernel_rfl
theorem Tryz.field145_1 : fieldA Tryz.prog 145 1 = some (1, 143) := by kernel_rfl
theorem Tryz.field145_2 : fieldA Tryz.prog 145 2 = some (2, 23) := by kernel_rfl
theorem Tryz.cells147 : Tryz.prog.cellsOf 147 = 3 := by kernel_rfl
theorem Tryz.bytes147 : Tryz.prog.bytesOf 147 = 32 := by kernel_rfl
theorem Tryz.zero147 : zeroA Tryz.prog 147 = some [.lit (.int .u8 0), .lit (.int .u8 0), .lit (.slice none 0 0)] := by kernel_rfl
theorem Tryz.places147 : placesA Tryz.prog 147 = some [(0, 1), (1, 1), (2, 1)] := by kernel_rfl
theorem Tryz.field147_0 : fieldA Tryz.prog 147 0 = some (0, 5) := by kernel_rfl
theorem Tryz.field147_1 : fieldA Tryz.prog 147 1 = some (1, 5) := by kernel_rfl
theorem Tryz.field147_2 : fieldA Tryz.prog 147 2 = some (2, 23) := by kernel_rfl
theorem Tryz.cells148 : Tryz.prog.cellsOf 148 = 3 := by kernel_rfl
theorem Tryz.bytes148 : Tryz.prog.bytesOf 148 = 32 := by kernel_rfl
theorem Tryz.zero148 : zeroA Tryz.prog 148 = some [.lit (.int .u8 0), .lit (.int .u8 0), .lit (.slice none 0 0)] := by kernel_rfl
theorem Tryz.places148 : placesA Tryz.prog 148 = some [(0, 1), (1, 1), (2, 1)] := by kernel_rfl
theorem Tryz.field148_0 : fieldA Tryz.prog 148 0 = some (0, 5) := by kernel_rfl
theorem Tryz.field148_1 : fieldA Tryz.prog 148 1 = some (1, 5) := by kernel_rfl
theorem Tryz.field148_2 : fieldA Tryz.prog 148 2 = some (2, 23) := by kernel_rfl
theorem Tryz.cells153 : Tryz.prog.cellsOf 153 = 1 := by kernel_rfl
theorem Tryz.bytes153 : Tryz.prog.bytesOf 153 = 1 := by kernel_rfl
theorem Tryz.zero153 : zeroA Tryz.prog 153 = some [.lit (.int .i8 0)] := by kernel_rfl
theorem Tryz.cells156 : Tryz.prog.cellsOf 156 = 6 := by kernel_rfl
theorem Tryz.bytes156 : Tryz.prog.bytesOf 156 = 96 := by kernel_rfl
theorem Tryz.zero156 : zeroA Tryz.prog 156 = some [.lit (.int .i64 0), .lit (.slice none 0 0), .lit (.int .u64 0), .lit (.slice none 0 0), .lit (.slice none 0 0), .lit (.int .i64 0)] := by kernel_rfl
theorem Tryz.places156 : placesA Tryz.prog 156 = some [(0, 4), (4, 1), (5, 1)] := by kernel_rfl
theorem Tryz.field156_0 : fieldA Tryz.prog 156 0 = some (0, 38) := by kernel_rfl
theorem Tryz.field156_1 : fieldA Tryz.prog 156 1 = some (4, 72) := by kernel_rfl
theorem Tryz.field156_2 : fieldA Tryz.prog 156 2 = some (5, 3) := by kernel_rfl
theorem Tryz.cells157 : Tryz.prog.cellsOf 157 = 6 := by kernel_rfl
theorem Tryz.bytes157 : Tryz.prog.bytesOf 157 = 96 := by kernel_rfl
theorem Tryz.zero157 : zeroA Tryz.prog 157 = some [.lit (.int .i64 0), .lit (.slice none 0 0), .lit (.int .u64 0), .lit (.slice none 0 0), .lit (.slice none 0 0), .lit (.int .i64 0)] := by kernel_rfl
theorem Tryz.places157 : placesA Tryz.prog 157 = some [(0, 4), (4, 1), (5, 1)] := by kernel_rfl
theorem Tryz.field157_0 : fieldA Tryz.prog 157 0 = some (0, 38) := by kernel_rfl
theorem Tryz.field157_1 : fieldA Tryz.prog 157 1 = some (4, 72) := by kernel_rfl
theorem Tryz.field157_2 : fieldA Tryz.prog 157 2 = some (5, 3) := by kernel_rfl
theorem Tryz.cells172 : Tryz.prog.cellsOf 172 = 2 := by kernel_rfl
theorem Tryz.bytes172 : Tryz.prog.bytesOf 172 = 16 := by kernel_rfl
theorem Tryz.zero172 : zeroA Tryz.prog 172 = some [.lit (.int .u64 0), .lit (.int .u64 0)] := by kernel_rfl
theorem Tryz.cells173 : Tryz.prog.cellsOf 173 = 2 := by kernel_rfl
theorem Tryz.bytes173 : Tryz.prog.bytesOf 173 = 16 := by kernel_rfl
theorem Tryz.zero173 : zeroA Tryz.prog 173 = some [.lit (.int .u64 0), .lit (.int .u64 0)] := by kernel_rfl
theorem Tryz.cells180 : Tryz.prog.cellsOf 180 = 1 := by kernel_rfl
theorem Tryz.bytes180 : Tryz.prog.bytesOf 180 = 8 := by kernel_rfl
theorem Tryz.zero180 : zeroA Tryz.prog 180 = some [.lit .nilFunc] := by kernel_rfl
theorem Tryz.cells182 : Tryz.prog.cellsOf 182 = 1 := by kernel_rfl
theorem Tryz.bytes182 : Tryz.prog.bytesOf 182 = 24 := by kernel_rfl
theorem Tryz.zero182 : zeroA Tryz.prog 182 = some [.lit (.slice none 0 0)] := by kernel_rfl
theorem Tryz.cells183 : Tryz.prog.cellsOf 183 = 8 := by kernel_rfl
theorem Tryz.bytes183 : Tryz.prog.bytesOf 183 = 144 := by kernel_rfl
theorem Tryz.zero183 : zeroA Tryz.prog 183 = some [.lit (.int .i64 0), .lit (.slice none 0 0), .lit (.int .u64 0), .lit (.slice none 0 0), .lit (.slice none 0 0), .lit (.slice none 0 0), .lit (.slice none 0 0), .lit (.int .i64 0)] := by kernel_rfl
theorem Tryz.places183 : placesA Tryz.prog 183 = some [(0, 4), (4, 1), (5, 1), (6, 1), (7, 1)] := by kernel_rfl
theorem Tryz.field183_0 : fieldA Tryz.prog 183 0 = some (0, 38) := by kernel_rfl
theorem Tryz.field183_1 : fieldA Tryz.prog 183 1 = some (4, 182) := by kernel_rfl
theorem Tryz.field183_2 : fieldA Tryz.prog 183 2 = some (5, 72) := by kernel_rfl
theorem Tryz.field183_3 : fieldA Tryz.prog 183 3 = some (6, 72) := by kernel_rfl
theorem Tryz.field183_4 : fieldA Tryz.prog 183 4 = some (7, 3) := by kernel_rfl
theorem Tryz.cells184 : Tryz.prog.cellsOf 184 = 8 := by kernel_rfl
theorem Tryz.bytes184 : Tryz.prog.bytesOf 184 = 144 := by kernel_rfl
theorem Tryz.zero184 : zeroA Tryz.prog 184 = some [.lit (.int .i64 0), .lit (.slice none 0 0), .lit (.int .u64 0), .lit (.slice none 0 0), .lit (.slice none 0 0), .lit (.slice none 0 0), .lit (.slice none 0 0), .lit (.int .i64 0)] := by kernel_rfl
theorem Tryz.places184 : placesA Tryz.prog 184 = some [(0, 4), (4, 1), (5, 1), (6, 1), (7, 1)] := by kernel_rfl
theorem Tryz.field184_0 : fieldA Tryz.prog 184 0 = some (0, 38) := by kernel_rfl
theorem Tryz.field184_1 : fieldA Tryz.prog 184 1 = some (4, 182) := by kernel_rfl
theorem Tryz.field184_2 : fieldA Tryz.prog 184 2 = some (5, 72) := by kernel_rfl
theorem Tryz.field184_3 : fieldA Tryz.prog 184 3 = some (6, 72) := by kernel_rfl
theorem Tryz.field184_4 : fieldA Tryz.prog 184 4 = some (7, 3) := by kernel_rfl
theorem Tryz.cells187 : Tryz.prog.cellsOf 187 = 1 := by kernel_rfl
theorem Tryz.bytes187 : Tryz.prog.bytesOf 187 = 8 := by kernel_rfl
theorem Tryz.zero187 : zeroA Tryz.prog 187 = some [.lit (.pointer none)] := by kernel_rfl
theorem Tryz.cells188 : Tryz.prog.cellsOf 188 = 1 := by kernel_rfl
theorem Tryz.bytes188 : Tryz.prog.bytesOf 188 = 24 := by kernel_rfl
theorem Tryz.zero188 : zeroA Tryz.prog 188 = some [.lit (.slice none 0 0)] := by kernel_rfl
theorem Tryz.cells190 : Tryz.prog.cellsOf 190 = 7 := by kernel_rfl
theorem Tryz.bytes190 : Tryz.prog.bytesOf 190 = 136 := by kernel_rfl
theorem Tryz.zero190 : zeroA Tryz.prog 190 = some [.lit (.int .i64 0), .lit (.int .i64 0), .lit (.slice none 0 0), .lit (.slice none 0 0), .lit (.slice none 0 0), .lit (.slice none 0 0), .lit (.slice none 0 0)] := by kernel_rfl
theorem Tryz.places190 : placesA Tryz.prog 190 = some [(0, 1), (1, 1), (2, 1), (3, 1), (4, 1), (5, 1), (6, 1)] := by kernel_rfl
theorem Tryz.field190_0 : fieldA Tryz.prog 190 0 = some (0, 3) := by kernel_rfl
theorem Tryz.field190_1 : fieldA Tryz.prog 190 1 = some (1, 3) := by kernel_rfl
theorem Tryz.field190_2 : fieldA Tryz.prog 190 2 = some (2, 72) := by kernel_rfl
theorem Tryz.field190_3 : fieldA Tryz.prog 190 3 = some (3, 188) := by kernel_rfl
theorem Tryz.field190_4 : fieldA Tryz.prog 190 4 = some (4, 72) := by kernel_rfl
theorem Tryz.field190_5 : fieldA Tryz.prog 190 5 = some (5, 72) := by kernel_rfl
theorem Tryz.field190_6 : fieldA Tryz.prog 190 6 = some (6, 72) := by kernel_rfl
theorem Tryz.cells191 : Tryz.prog.cellsOf 191 = 7 := by kernel_rfl
theorem Tryz.bytes191 : Tryz.prog.bytesOf 191 = 136 := by kernel_rfl
theorem Tryz.zero191 : zeroA Tryz.prog 191 = some [.lit (.int .i64 0), .lit (.int .i64 0), .lit (.slice none 0 0), .lit (.slice none 0 0), .lit (.slice none 0 0), .lit (.slice none 0 0), .lit (.slice none 0 0)] := by kernel_rfl
theorem Tryz.places191 : placesA Tryz.prog 191 = some [(0, 1), (1, 1), (2, 1), (3, 1), (4, 1), (5, 1), (6, 1)] := by kernel_rfl
theorem Tryz.field191_0 : fieldA Tryz.prog 191 0 = some (0, 3) := by kernel_rfl
theorem Tryz.field191_1 : fieldA Tryz.prog 191 1 = some (1, 3) := by kernel_rfl
theorem Tryz.field191_2 : fieldA Tryz.prog 191 2 = some (2, 72) := by kernel_rfl
theorem Tryz.field191_3 : fieldA Tryz.prog 191 3 = some (3, 188) := by kernel_rfl
theorem Tryz.field191_4 : fieldA Tryz.prog 191 4 = some (4, 72) := by kernel_rfl
theorem Tryz.field191_5 : fieldA Tryz.prog 191 5 = some (5, 72) := by kernel_rfl
theorem Tryz.field191_6 : fieldA Tryz.prog 191 6 = some (6, 72) := by kernel_rfl
theorem Tryz.cells193 : Tryz.prog.cellsOf 193 = 1 := by kernel_rfl
theorem Tryz.bytes193 : Tryz.prog.bytesOf 193 = 8 := by kernel_rfl
theorem Tryz.zero193 : zeroA Tryz.prog 193 = some [.lit .nilFunc] := by kernel_rfl
theorem Tryz.cells197 : Tryz.prog.cellsOf 197 = 1 := by kernel_rfl
theorem Tryz.bytes197 : Tryz.prog.bytesOf 197 = 8 := by kernel_rfl
theorem Tryz.zero197 : zeroA Tryz.prog 197 = some [.lit .nilFunc] := by kernel_rfl
theorem Tryz.cells203 : Tryz.prog.cellsOf 203 = 1 := by kernel_rfl
theorem Tryz.bytes203 : Tryz.prog.bytesOf 203 = 8 := by kernel_rfl
theorem Tryz.zero203 : zeroA Tryz.prog 203 = some [.lit .nilFunc] := by kernel_rfl
theorem Tryz.cells213 : Tryz.prog.cellsOf 213 = 5 := by kernel_rfl
theorem Tryz.bytes213 : Tryz.prog.bytesOf 213 = 104 := by kernel_rfl
theorem Tryz.zero213 : zeroA Tryz.prog 213 = some [.lit (.int .i64 0), .lit (.slice none 0 0), .lit (.slice none 0 0), .lit (.slice none 0 0), .lit (.slice none 0 0)] := by kernel_rfl
theorem Tryz.places213 : placesA Tryz.prog 213 = some [(0, 2), (2, 1), (3, 1), (4, 1)] := by kernel_rfl
theorem Tryz.field213_0 : fieldA Tryz.prog 213 0 = some (0, 90) := by kernel_rfl
theorem Tryz.field213_1 : fieldA Tryz.prog 213 1 = some (2, 72) := by kernel_rfl
theorem Tryz.field213_2 : fieldA Tryz.prog 213 2 = some (3, 93) := by kernel_rfl
theorem Tryz.field213_3 : fieldA Tryz.prog 213 3 = some (4, 72) := by kernel_rfl
theorem Tryz.cells214 : Tryz.prog.cellsOf 214 = 5 := by kernel_rfl
theorem Tryz.bytes214 : Tryz.prog.bytesOf 214 = 104 := by kernel_rfl
theorem Tryz.zero214 : zeroA Tryz.prog 214 = some [.lit (.int .i64 0), .lit (.slice none 0 0), .lit (.slice none 0 0), .lit (.slice none 0 0), .lit (.slice none 0 0)] := by kernel_rfl
theorem Tryz.places214 : placesA Tryz.prog 214 = some [(0, 2), (2, 1), (3, 1), (4, 1)] := by kernel_rfl
theorem Tryz.field214_0 : fieldA Tryz.prog 214 0 = some (0, 90) := by kernel_rfl
theorem Tryz.field214_1 : fieldA Tryz.prog 214 1 = some (2, 72) := by kernel_rfl
theorem Tryz.field214_2 : fieldA Tryz.prog 214 2 = some (3, 93) := by kernel_rfl
theorem Tryz.field214_3 : fieldA Tryz.prog 214 3 = some (4, 72) := by kernel_rfl
theorem Tryz.cells228 : Tryz.prog.cellsOf 228 = 1 := by kernel_rfl
theorem Tryz.bytes228 : Tryz.prog.bytesOf 228 = 8 := by kernel_rfl
theorem Tryz.zero228 : zeroA Tryz.prog 228 = some [.lit (.int .i64 0)] := by kernel_rfl
theorem Tryz.cells239 : Tryz.prog.cellsOf 239 = 1 := by kernel_rfl
theorem Tryz.bytes239 : Tryz.prog.bytesOf 239 = 24 := by kernel_rfl
theorem Tryz.zero239 : zeroA Tryz.prog 239 = some [.lit (.slice none 0 0)] := by kernel_rfl
theorem Tryz.cells247 : Tryz.prog.cellsOf 247 = 1 := by kernel_rfl
theorem Tryz.bytes247 : Tryz.prog.bytesOf 247 = 8 := by kernel_rfl
theorem Tryz.zero247 : zeroA Tryz.prog 247 = some [.lit (.int .u64 0)] := by kernel_rfl
theorem Tryz.cells254 : Tryz.prog.cellsOf 254 = 0 := by kernel_rfl
theorem Tryz.bytes254 : Tryz.prog.bytesOf 254 = 0 := by kernel_rfl
theorem Tryz.zero254 : zeroA Tryz.prog 254 = some [] := by kernel_rfl
theorem Tryz.cells255 : Tryz.prog.cellsOf 255 = 0 := by kernel_rfl
theorem Tryz.bytes255 : Tryz.prog.bytesOf 255 = 0 := by kernel_rfl
theorem Tryz.zero255 : zeroA Tryz.prog 255 = some [] := by kernel_rfl
theorem Tryz.cells260 : Tryz.prog.cellsOf 260 = 1 := by kernel_rfl
theorem Tryz.bytes260 : Tryz.prog.bytesOf 260 = 16 := by kernel_rfl
theorem Tryz.zero260 : zeroA Tryz.prog 260 = some [.lit .nilIface] := by kernel_rfl
theorem Tryz.cells261 : Tryz.prog.cellsOf 261 = 1 := by kernel_rfl
theorem Tryz.bytes261 : Tryz.prog.bytesOf 261 = 16 := by kernel_rfl
theorem Tryz.zero261 : zeroA Tryz.prog 261 = some [.lit .nilIface] := by kernel_rfl
attribute [go_sem] Tryz.underlying3 Tryz.cells3 Tryz.bytes3 Tryz.zero3 Tryz.underlying4 Tryz.cells4 Tryz.bytes4 Tryz.zero4 Tryz.underlying5 Tryz.cells5 Tryz.bytes5 Tryz.zero5
attribute [go_sem] Tryz.underlying9 Tryz.cells9 Tryz.bytes9 Tryz.zero9 Tryz.underlying20 Tryz.cells20 Tryz.bytes20 Tryz.zero20 Tryz.underlying22 Tryz.cells22 Tryz.bytes22 Tryz.zero22
attribute [go_sem] Tryz.underlying23 Tryz.cells23 Tryz.bytes23 Tryz.zero23 Tryz.underlying24 Tryz.cells24 Tryz.bytes24 Tryz.zero24 Tryz.places24 Tryz.field24_0 Tryz.field24_1 Tryz.field24_2
attribute [go_sem] Tryz.underlying25 Tryz.cells25 Tryz.bytes25 Tryz.zero25 Tryz.places25 Tryz.field25_0 Tryz.field25_1 Tryz.field25_2 Tryz.underlying26 Tryz.cells26 Tryz.bytes26 Tryz.zero26
attribute [go_sem] Tryz.underlying27 Tryz.cells27 Tryz.bytes27 Tryz.zero27 Tryz.places27 Tryz.field27_0 Tryz.field27_1 Tryz.field27_2 Tryz.field27_3 Tryz.underlying28 Tryz.cells28 Tryz.bytes28
attribute [go_sem] Tryz.zero28 Tryz.places28 Tryz.field28_0 Tryz.field28_1 Tryz.field28_2 Tryz.field28_3 Tryz.underlying29 Tryz.cells29 Tryz.bytes29 Tryz.zero29 Tryz.places29 Tryz.field29_0
attribute [go_sem] Tryz.field29_1 Tryz.field29_2 Tryz.field29_3 Tryz.underlying30 Tryz.cells30 Tryz.bytes30 Tryz.zero30 Tryz.places30 Tryz.field30_0 Tryz.field30_1 Tryz.field30_2 Tryz.field30_3
attribute [go_sem] Tryz.underlying31 Tryz.cells31 Tryz.bytes31 Tryz.zero31 Tryz.places31 Tryz.field31_0 Tryz.field31_1 Tryz.field31_2 Tryz.underlying32 Tryz.cells32 Tryz.bytes32 Tryz.zero32
attribute [go_sem] Tryz.places32 Tryz.field32_0 Tryz.field32_1 Tryz.field32_2 Tryz.underlying33 Tryz.cells33 Tryz.bytes33 Tryz.zero33 Tryz.underlying34 Tryz.cells34 Tryz.bytes34 Tryz.zero34
attribute [go_sem] Tryz.underlying35 Tryz.cells35 Tryz.bytes35 Tryz.zero35 Tryz.underlying36 Tryz.cells36 Tryz.bytes36 Tryz.zero36 Tryz.underlying37 Tryz.cells37 Tryz.bytes37 Tryz.zero37
attribute [go_sem] Tryz.places37 Tryz.field37_0 Tryz.field37_1 Tryz.field37_2 Tryz.field37_3 Tryz.underlying38 Tryz.cells38 Tryz.bytes38 Tryz.zero38 Tryz.places38 Tryz.field38_0 Tryz.field38_1
attribute [go_sem] Tryz.field38_2 Tryz.field38_3 Tryz.underlying41 Tryz.cells41 Tryz.bytes41 Tryz.zero41 Tryz.underlying43 Tryz.cells43 Tryz.bytes43 Tryz.zero43 Tryz.underlying44 Tryz.cells44
attribute [go_sem] Tryz.bytes44 Tryz.zero44 Tryz.underlying49 Tryz.cells49 Tryz.bytes49 Tryz.zero49 Tryz.underlying56 Tryz.cells56 Tryz.bytes56 Tryz.zero56 Tryz.underlying57 Tryz.cells57
attribute [go_sem] Tryz.bytes57 Tryz.zero57 Tryz.places57 Tryz.field57_0 Tryz.field57_1 Tryz.underlying58 Tryz.cells58 Tryz.bytes58 Tryz.zero58 Tryz.places58 Tryz.field58_0 Tryz.field58_1
attribute [go_sem] Tryz.underlying63 Tryz.cells63 Tryz.bytes63 Tryz.zero63 Tryz.underlying65 Tryz.cells65 Tryz.bytes65 Tryz.zero65 Tryz.underlying68 Tryz.cells68 Tryz.bytes68 Tryz.zero68
attribute [go_sem] Tryz.underlying72 Tryz.cells72 Tryz.bytes72 Tryz.zero72 Tryz.underlying74 Tryz.cells74 Tryz.bytes74 Tryz.zero74 Tryz.underlying75 Tryz.cells75 Tryz.bytes75 Tryz.zero75
attribute [go_sem] Tryz.places75 Tryz.field75_0 Tryz.field75_1 Tryz.field75_2 Tryz.underlying76 Tryz.cells76 Tryz.bytes76 Tryz.zero76 Tryz.places76 Tryz.field76_0 Tryz.field76_1 Tryz.field76_2
attribute [go_sem] Tryz.underlying86 Tryz.cells86 Tryz.bytes86 Tryz.zero86 Tryz.places86 Tryz.field86_0 Tryz.field86_1 Tryz.underlying87 Tryz.cells87 Tryz.bytes87 Tryz.zero87 Tryz.places87
attribute [go_sem] Tryz.field87_0 Tryz.field87_1 Tryz.underlying89 Tryz.cells89 Tryz.bytes89 Tryz.zero89 Tryz.places89 Tryz.field89_0 Tryz.field89_1 Tryz.underlying90 Tryz.cells90 Tryz.bytes90
attribute [go_sem] Tryz.zero90 Tryz.places90 Tryz.field90_0 Tryz.field90_1 Tryz.underlying93 Tryz.cells93 Tryz.bytes93 Tryz.zero93 Tryz.underlying96 Tryz.cells96 Tryz.bytes96 Tryz.zero96
attribute [go_sem] Tryz.underlying97 Tryz.cells97 Tryz.bytes97 Tryz.zero97 Tryz.places97 Tryz.field97_0 Tryz.field97_1 Tryz.underlying98 Tryz.cells98 Tryz.bytes98 Tryz.zero98 Tryz.places98
attribute [go_sem] Tryz.field98_0 Tryz.field98_1 Tryz.underlying101 Tryz.cells101 Tryz.bytes101 Tryz.zero101 Tryz.underlying122 Tryz.cells122 Tryz.bytes122 Tryz.zero122 Tryz.underlying134 Tryz.cells134
attribute [go_sem] Tryz.bytes134 Tryz.zero134 Tryz.underlying140 Tryz.cells140 Tryz.bytes140 Tryz.zero140 Tryz.underlying142 Tryz.cells142 Tryz.bytes142 Tryz.zero142 Tryz.underlying143 Tryz.cells143
attribute [go_sem] Tryz.bytes143 Tryz.zero143 Tryz.underlying144 Tryz.cells144 Tryz.bytes144 Tryz.zero144 Tryz.places144 Tryz.field144_0 Tryz.field144_1 Tryz.field144_2 Tryz.underlying145 Tryz.cells145
attribute [go_sem] Tryz.bytes145 Tryz.zero145 Tryz.places145 Tryz.field145_0 Tryz.field145_1 Tryz.field145_2 Tryz.underlying147 Tryz.cells147 Tryz.bytes147 Tryz.zero147 Tryz.places147 Tryz.field147_0
attribute [go_sem] Tryz.field147_1 Tryz.field147_2 Tryz.underlying148 Tryz.cells148 Tryz.bytes148 Tryz.zero148 Tryz.places148 Tryz.field148_0 Tryz.field148_1 Tryz.field148_2 Tryz.underlying153 Tryz.cells153
attribute [go_sem] Tryz.bytes153 Tryz.zero153 Tryz.underlying156 Tryz.cells156 Tryz.bytes156 Tryz.zero156 Tryz.places156 Tryz.field156_0 Tryz.field156_1 Tryz.field156_2 Tryz.underlying157 Tryz.cells157
attribute [go_sem] Tryz.bytes157 Tryz.zero157 Tryz.places157 Tryz.field157_0 Tryz.field157_1 Tryz.field157_2 Tryz.underlying172 Tryz.cells172 Tryz.bytes172 Tryz.zero172 Tryz.underlying173 Tryz.cells173
attribute [go_sem] Tryz.bytes173 Tryz.zero173 Tryz.underlying180 Tryz.cells180 Tryz.bytes180 Tryz.zero180 Tryz.underlying182 Tryz.cells182 Tryz.bytes182 Tryz.zero182 Tryz.underlying183 Tryz.cells183
attribute [go_sem] Tryz.bytes183 Tryz.zero183 Tryz.places183 Tryz.field183_0 Tryz.field183_1 Tryz.field183_2 Tryz.field183_3 Tryz.field183_4 Tryz.underlying184 Tryz.cells184 Tryz.bytes184 Tryz.zero184
attribute [go_sem] Tryz.places184 Tryz.field184_0 Tryz.field184_1 Tryz.field184_2 Tryz.field184_3 Tryz.field184_4 Tryz.underlying187 Tryz.cells187 Tryz.bytes187 Tryz.zero187 Tryz.underlying188 Tryz.cells188
attribute [go_sem] Tryz.bytes188 Tryz.zero188 Tryz.underlying190 Tryz.cells190 Tryz.bytes190 Tryz.zero190 Tryz.places190 Tryz.field190_0 Tryz.field190_1 Tryz.field190_2 Tryz.field190_3 Tryz.field190_4
attribute [go_sem] Tryz.field190_5 Tryz.field190_6 Tryz.underlying191 Tryz.cells191 Tryz.bytes191 Tryz.zero191 Tryz.places191 Tryz.field191_0 Tryz.field191_1 Tryz.field191_2 Tryz.field191_3 Tryz.field191_4
attribute [go_sem] Tryz.field191_5 Tryz.field191_6 Tryz.underlying193 Tryz.cells193 Tryz.bytes193 Tryz.zero193 Tryz.underlying197 Tryz.cells197 Tryz.bytes197 Tryz.zero197 Tryz.underlying203 Tryz.cells203
attribute [go_sem] Tryz.bytes203 Tryz.zero203 Tryz.underlying213 Tryz.cells213 Tryz.bytes213 Tryz.zero213 Tryz.places213 Tryz.field213_0 Tryz.field213_1 Tryz.field213_2 Tryz.field213_3 Tryz.underlying214
attribute [go_sem] Tryz.cells214 Tryz.bytes214 Tryz.zero214 Tryz.places214 Tryz.field214_0 Tryz.field214_1 Tryz.field214_2 Tryz.field214_3 Tryz.underlying228 Tryz.cells228 Tryz.bytes228 Tryz.zero228
attribute [go_sem] Tryz.underlying239 Tryz.cells239 Tryz.bytes239 Tryz.zero239 Tryz.underlying247 Tryz.cells247 Tryz.bytes247 Tryz.zero247 Tryz.underlying254 Tryz.cells254 Tryz.bytes254 Tryz.zero254
attribute [go_sem] Tryz.underlying255 Tryz.cells255 Tryz.bytes255 Tryz.zero255 Tryz.underlying260 Tryz.cells260 Tryz.bytes260 Tryz.zero260 Tryz.underlying261 Tryz.cells261 Tryz.bytes261 Tryz.zero261
end Go.Proofs
set_option linter.unusedSimpArgs false
namespace Go.Proofs
open Go.Hx
theorem fz_lit1 {S : Nat → Prop} {H : AHeap} {nx : Nat} {l : List Value} : ∀ i (_ : i < (l.map AVal.lit).length) (_ : i < (l.map AVal.lit).length), Fz S H nx (l.map AVal.lit)[i] (l.map AVal.lit)[i] := fun i _ _ => by simp only [List.getElem_map]; exact .lit _
theorem fz_q {S : Nat → Prop} {H : AHeap} {nx : Nat} (a b c : Value) : Fz S H nx (.tup [.agg [.lit a, .lit b], .lit c]) (.tup [.agg [.lit a, .lit b], .lit c]) :=
  .tup rfl fun i h _ => match i, h with
    | 0, _ => .agg rfl (fz_lit1 (l := [a, b]))
    | 1, _ => .lit _
theorem fz_i {S : Nat → Prop} {H : AHeap} {nx : Nat} (a c : Value) : Fz S H nx (.tup [.lit a, .lit c]) (.tup [.lit a, .lit c]) := .tup rfl (fz_lit1 (l := [a, c]))
def qOk : AVal → Bool
  | .agg [.lit (.int .i64 _), .lit (.int .i64 _)] => true
  | _ => false
def gdQ : GD := ⟨.agg [.lit (.int .i64 0), .lit (.int .i64 0)], qOk⟩

theorem gdQ_ok {G : Nat → Option (List AVal)} (hG : GOk G) : GdOk Tryz.prog G 163 gdQ := by
  intro g cap cap' H o hl hv hok hc
  refine ACall.clo ⟨_, Tryz.func163, rfl, rfl⟩ fun hcl => ?_
  refine ACall.guard (n := 7) (m := 6) (rs := [.cell 2 58, .cell 3 44]) Tryz.func163 rfl rfl rfl (by kernel_rfl) (by simp) (by decide) Tryz.func184 rfl rfl rfl (by decide) (by kernel_rfl) (by decide) (by decide) (by decide) (by decide) (by decide) (fun _ => by kernel_rfl) (fun _ _ _ => by kernel_rfl) (by decide) (by decide) (by decide) (s1 := ?s) ?_ ?_
  case s => exact ⟨putA (putA (envOf [.clo g [] cap]) (some 2) (.ptr H.next 0 0)) (some 3) (.ptr (H.next + 1) 0 0), ext H [.arr 0 58 [.lit (.int .i64 0), .lit (.int .i64 0)], .arr 0 44 [.lit (.int .i64 0)]]⟩
  · simp (config := { maxSteps := 1000000 }) only [go_sem, Int.reduceToNat, Int.reduceLE, Int.reduceLT, Int.reduceAdd, Int.reduceSub, Int.reduceMul, Int.reduceEq, Int.reduceNe, Nat.reduceEqDiff, Nat.reducePow, Nat.reduceDiv, Nat.reduceMod, Nat.reduceAdd, Nat.reduceMul, Nat.reduceSub, Nat.reduceLT, Nat.reduceLeDiff, reduceIte, reduceCtorEq, appendA_U]
  · refine vc_sound _ _ _ (by rfl) ?_
    simp (config := { maxSteps := 1000000 }) only [go_sem, Int.reduceToNat, Int.reduceLE, Int.reduceLT, Int.reduceAdd, Int.reduceSub, Int.reduceMul, Int.reduceEq, Int.reduceNe, Nat.reduceEqDiff, Nat.reducePow, Nat.reduceDiv, Nat.reduceMod, Nat.reduceAdd, Nat.reduceMul, Nat.reduceSub, Nat.reduceLT, Nat.reduceLeDiff, reduceIte, reduceCtorEq, appendA_U]
    refine AApply.clo ((ACall.frameR (args := [] ++ [] ++ cap) hG (by simpa using hl) (fun i h h' => by simpa using hv _ (fun id hid => get_ext_old H _ id hid) i (by simpa using h) h') hc).mono ?_)
    rintro r H' ⟨rfl, rfl⟩
    refine ⟨trivial, ?_⟩
    cases o with
    | none =>
      intro t v
      refine ⟨⟨putA (putA (putA (envOf [.ptr H.next 0 0, .ptr (H.next + 1) 0 0]) (some 3) (.lit (.iface t v))) (some 4) (.lit (.bool true))) (some 2) (.ptr (H.next + 2) 0 0), ext H [.arr 0 58 [.lit (.int .i64 0), .lit (.int .i64 0)], .arr 0 44 [.lit (.int .i64 0)], .arr 0 58 [.lit (.int .i64 0), .lit (.int .i64 0)]]⟩, 
        ⟨putA (putA (putA (putA (envOf [.ptr H.next 0 0, .ptr (H.next + 1) 0 0]) (some 3) (.lit (.iface t v))) (some 4) (.lit (.bool true))) (some 2) (.ptr (H.next + 2) 0 0)) (some 5) (.agg [.lit (.int .i64 0), .lit (.int .i64 0)]), ext H [.arr 0 58 [.lit (.int .i64 0), .lit (.int .i64 0)], .arr 0 44 [.lit (.int .i64 6)], .arr 0 58 [.lit (.int .i64 0), .lit (.int .i64 0)]]⟩, ?_, ?_, ?_⟩
      · simp (config := { maxSteps := 1000000 }) only [go_sem, Int.reduceToNat, Int.reduceLE, Int.reduceLT, Int.reduceAdd, Int.reduceSub, Int.reduceMul, Int.reduceEq, Int.reduceNe, Nat.reduceEqDiff, Nat.reducePow, Nat.reduceDiv, Nat.reduceMod, Nat.reduceAdd, Nat.reduceMul, Nat.reduceSub, Nat.reduceLT, Nat.reduceLeDiff, reduceIte, reduceCtorEq, appendA_U]
      · simp (config := { maxSteps := 1000000 }) only [go_sem, Int.reduceToNat, Int.reduceLE, Int.reduceLT, Int.reduceAdd, Int.reduceSub, Int.reduceMul, Int.reduceEq, Int.reduceNe, Nat.reduceEqDiff, Nat.reducePow, Nat.reduceDiv, Nat.reduceMod, Nat.reduceAdd, Nat.reduceMul, Nat.reduceSub, Nat.reduceLT, Nat.reduceLeDiff, reduceIte, reduceCtorEq, appendA_U]
      · simp (config := { maxSteps := 1000000 }) only [go_sem, Int.reduceToNat, Int.reduceLE, Int.reduceLT, Int.reduceAdd, Int.reduceSub, Int.reduceMul, Int.reduceEq, Int.reduceNe, Nat.reduceEqDiff, Nat.reducePow, Nat.reduceDiv, Nat.reduceMod, Nat.reduceAdd, Nat.reduceMul, Nat.reduceSub, Nat.reduceLT, Nat.reduceLeDiff, reduceIte, reduceCtorEq, appendA_U]
        exact FinV.drop hG hcl (fz_q _ _ _) ⟨rfl, rfl⟩
    | some u =>
      have hu := hok u rfl
      unfold gdQ qOk at hu
      simp only at hu
      split at hu
      · rename_i a b
        show opsV _ _ _ _ _ _ _
        simp (config := { maxSteps := 1000000 }) only [go_sem, Int.reduceToNat, Int.reduceLE, Int.reduceLT, Int.reduceAdd, Int.reduceSub, Int.reduceMul, Int.reduceEq, Int.reduceNe, Nat.reduceEqDiff, Nat.reducePow, Nat.reduceDiv, Nat.reduceMod, Nat.reduceAdd, Nat.reduceMul, Nat.reduceSub, Nat.reduceLT, Nat.reduceLeDiff, reduceIte, reduceCtorEq, guardQ, appendA_U]
        exact FinV.drop hG hcl (fz_q _ _ _) ⟨rfl, rfl⟩
      · cases hu
def iOk : AVal → Bool
  | .lit (.int .i64 _) => true
  | _ => false
def gdI : GD := ⟨.lit (.int .i64 0), iOk⟩

theorem gdI_ok {G : Nat → Option (List AVal)} (hG : GOk G) : GdOk Tryz.prog G 139 gdI := by
  intro g cap cap' H o hl hv hok hc
  refine ACall.clo ⟨_, Tryz.func139, rfl, rfl⟩ fun hcl => ?_
  refine ACall.guard (n := 7) (m := 6) (rs := [.cell 2 3, .cell 3 44]) Tryz.func139 rfl rfl rfl (by kernel_rfl) (by simp) (by decide) Tryz.func173 rfl rfl rfl (by decide) (by kernel_rfl) (by decide) (by decide) (by decide) (by decide) (by decide) (fun _ => by kernel_rfl) (fun _ _ _ => by kernel_rfl) (by decide) (by decide) (by decide) (s1 := ?s) ?_ ?_
  case s => exact ⟨putA (putA (envOf [.clo g [] cap]) (some 2) (.ptr H.next 0 0)) (some 3) (.ptr (H.next + 1) 0 0), ext H [.arr 0 3 [.lit (.int .i64 0)], .arr 0 44 [.lit (.int .i64 0)]]⟩
  · simp (config := { maxSteps := 1000000 }) only [go_sem, Int.reduceToNat, Int.reduceLE, Int.reduceLT, Int.reduceAdd, Int.reduceSub, Int.reduceMul, Int.reduceEq, Int.reduceNe, Nat.reduceEqDiff, Nat.reducePow, Nat.reduceDiv, Nat.reduceMod, Nat.reduceAdd, Nat.reduceMul, Nat.reduceSub, Nat.reduceLT, Nat.reduceLeDiff, reduceIte, reduceCtorEq, appendA_U]
  · refine vc_sound _ _ _ (by rfl) ?_
    simp (config := { maxSteps := 1000000 }) only [go_sem, Int.reduceToNat, Int.reduceLE, Int.reduceLT, Int.reduceAdd, Int.reduceSub, Int.reduceMul, Int.reduceEq, Int.reduceNe, Nat.reduceEqDiff, Nat.reducePow, Nat.reduceDiv, Nat.reduceMod, Nat.reduceAdd, Nat.reduceMul, Nat.reduceSub, Nat.reduceLT, Nat.reduceLeDiff, reduceIte, reduceCtorEq, appendA_U]
    refine AApply.clo ((ACall.frameR (args := [] ++ [] ++ cap) hG (by simpa using hl) (fun i h h' => by simpa using hv _ (fun id hid => get_ext_old H _ id hid) i (by simpa using h) h') hc).mono ?_)
    rintro r H' ⟨rfl, rfl⟩
    refine ⟨trivial, ?_⟩
    cases o with
    | none =>
      intro t v
      refine ⟨⟨putA (putA (putA (envOf [.ptr H.next 0 0, .ptr (H.next + 1) 0 0]) (some 3) (.lit (.iface t v))) (some 4) (.lit (.bool true))) (some 2) (.lit (.int .i64 0)), ext H [.arr 0 3 [.lit (.int .i64 0)], .arr 0 44 [.lit (.int .i64 0)]]⟩, 
        ⟨putA (putA (putA (putA (envOf [.ptr H.next 0 0, .ptr (H.next + 1) 0 0]) (some 3) (.lit (.iface t v))) (some 4) (.lit (.bool true))) (some 2) (.lit (.int .i64 0))) (some 5) (.lit (.int .i64 0)), ext H [.arr 0 3 [.lit (.int .i64 0)], .arr 0 44 [.lit (.int .i64 6)]]⟩, ?_, ?_, ?_⟩
      · simp (config := { maxSteps := 1000000 }) only [go_sem, Int.reduceToNat, Int.reduceLE, Int.reduceLT, Int.reduceAdd, Int.reduceSub, Int.reduceMul, Int.reduceEq, Int.reduceNe, Nat.reduceEqDiff, Nat.reducePow, Nat.reduceDiv, Nat.reduceMod, Nat.reduceAdd, Nat.reduceMul, Nat.reduceSub, Nat.reduceLT, Nat.reduceLeDiff, reduceIte, reduceCtorEq, appendA_U]
      · simp (config := { maxSteps := 1000000 }) only [go_sem, Int.reduceToNat, Int.reduceLE, Int.reduceLT, Int.reduceAdd, Int.reduceSub, Int.reduceMul, Int.reduceEq, Int.reduceNe, Nat.reduceEqDiff, Nat.reducePow, Nat.reduceDiv, Nat.reduceMod, Nat.reduceAdd, Nat.reduceMul, Nat.reduceSub, Nat.reduceLT, Nat.reduceLeDiff, reduceIte, reduceCtorEq, appendA_U]
      · simp (config := { maxSteps := 1000000 }) only [go_sem, Int.reduceToNat, Int.reduceLE, Int.reduceLT, Int.reduceAdd, Int.reduceSub, Int.reduceMul, Int.reduceEq, Int.reduceNe, Nat.reduceEqDiff, Nat.reducePow, Nat.reduceDiv, Nat.reduceMod, Nat.reduceAdd, Nat.reduceMul, Nat.reduceSub, Nat.reduceLT, Nat.reduceLeDiff, reduceIte, reduceCtorEq, appendA_U]
        exact FinV.drop hG hcl (fz_i _ _) ⟨rfl, rfl⟩
    | some u =>
      have hu := hok u rfl
      unfold gdI iOk at hu
      simp only at hu
      split at hu
      · rename_i a
        show opsV _ _ _ _ _ _ _
        simp (config := { maxSteps := 1000000 }) only [go_sem, Int.reduceToNat, Int.reduceLE, Int.reduceLT, Int.reduceAdd, Int.reduceSub, Int.reduceMul, Int.reduceEq, Int.reduceNe, Nat.reduceEqDiff, Nat.reducePow, Nat.reduceDiv, Nat.reduceMod, Nat.reduceAdd, Nat.reduceMul, Nat.reduceSub, Nat.reduceLT, Nat.reduceLeDiff, reduceIte, reduceCtorEq, guardQ, appendA_U]
        exact FinV.drop hG hcl (fz_i _ _) ⟨rfl, rfl⟩
      · cases hu
end Go.Proofs
/-
  Functions without a body, and guards, that this program meets. No conditions.
-/
set_option linter.unusedSimpArgs false
namespace Go.Proofs
open Go.Hx
set_option maxRecDepth 100000
def addE (args : Array Value) : Sem Value := do
  let (x, y, c) ← Extern.MathBitsCarry.three "Add64" args
  pure (Extern.MathBitsCarry.pair ((x + y + c) % Extern.MathBitsCarry.m64) ((x + y + c) / Extern.MathBitsCarry.m64))
def subE (args : Array Value) : Sem Value := do
  let (x, y, b) ← Extern.MathBitsCarry.three "Sub64" args
  pure (Extern.MathBitsCarry.pair ((x + Extern.MathBitsCarry.m64 - y - b) % Extern.MathBitsCarry.m64) (if x < y + b then 1 else 0))
def addF : List AVal → Option AVal
  | [.lit (.int .u64 a), .lit (.int .u64 b), .lit (.int .u64 c)] => bif Nat.ble c.toNat 1 then some (.tup [.lit (.int .u64 (Int.ofNat ((a.toNat + b.toNat + c.toNat) % 18446744073709551616))), .lit (.int .u64 (Int.ofNat ((a.toNat + b.toNat + c.toNat) / 18446744073709551616)))]) else none
  | _ => none
def subF : List AVal → Option AVal
  | [.lit (.int .u64 a), .lit (.int .u64 b), .lit (.int .u64 c)] => bif Nat.ble c.toNat 1 then some (.tup [.lit (.int .u64 (Int.ofNat ((a.toNat + 18446744073709551616 - b.toNat - c.toNat) % 18446744073709551616))), .lit (.int .u64 (Int.ofNat (bif Nat.blt a.toNat (b.toNat + c.toNat) then 1 else 0)))]) else none
  | _ => none
theorem pair_rel {P : Program} (a b : Nat) (Γ : Gam) (H : AHeap) (w : World) : RelV P Γ H w (.tup [.lit (.int .u64 (Int.ofNat a)), .lit (.int .u64 (Int.ofNat b))]) (Extern.MathBitsCarry.pair a b) := by
  unfold Extern.MathBitsCarry.pair
  refine RelV.tup (cs := [.int .u64 (Int.ofNat a), .int .u64 (Int.ofNat b)]) rfl fun i h _ => ?_
  match i, h with
  | 0, _ => exact .lit _
  | 1, _ => exact .lit _
theorem run_three {P : Program} (s : String) (w : World) (a b c : Int) (hc : ¬ c.toNat > 1) : (Extern.MathBitsCarry.three s #[.int .u64 a, .int .u64 b, .int .u64 c]).run P w = .ok (a.toNat, b.toNat, c.toNat) w := by
  have h1 : ∀ x : Int, (asInt (.int .u64 x)).run P w = .ok x w := fun x => rfl
  show (do
    let c := (← asInt (.int .u64 c)).toNat
    if c > 1 then unsupported _
    pure ((← asInt (.int .u64 a)).toNat, (← asInt (.int .u64 b)).toNat, c) : Sem (Nat × Nat × Nat)).run P w = _
  rw [run_bind_ok (h1 c)]
  simp only [hc, if_false]
  rfl
theorem add_ext {a b c : Int} {r : AVal} (h : addF [.lit (.int .u64 a), .lit (.int .u64 b), .lit (.int .u64 c)] = some r) {H : AHeap} {K : ARes → AHeap → Prop} (hK : K (.ret r) H) : AApply Tryz.prog noGl (.clo 185 [] []) [.lit (.int .u64 a), .lit (.int .u64 b), .lit (.int .u64 c)] H K := by
  simp only [addF] at h
  cases hb : Nat.ble c.toNat 1 with
  | false => rw [hb] at h; cases h
  | true =>
    rw [hb] at h
    have hc : ¬ c.toNat > 1 := by have := Nat.le_of_ble_eq_true hb; omega
    cases h
    refine AApply.ext (e := addE) (vs := [.int .u64 a, .int .u64 b, .int .u64 c]) Tryz.func185 rfl (by kernel_rfl) (by kernel_rfl) (by kernel_rfl) rfl (fun w => ?_) (fun Γ H w => pair_rel _ _ Γ H w) hK
    unfold addE
    rw [run_bind_ok (run_three _ w a b c hc)]
    rfl
theorem sub_ext {a b c : Int} {r : AVal} (h : subF [.lit (.int .u64 a), .lit (.int .u64 b), .lit (.int .u64 c)] = some r) {H : AHeap} {K : ARes → AHeap → Prop} (hK : K (.ret r) H) : AApply Tryz.prog noGl (.clo 186 [] []) [.lit (.int .u64 a), .lit (.int .u64 b), .lit (.int .u64 c)] H K := by
  simp only [subF] at h
  cases hb : Nat.ble c.toNat 1 with
  | false => rw [hb] at h; cases h
  | true =>
    rw [hb] at h
    have hc : ¬ c.toNat > 1 := by have := Nat.le_of_ble_eq_true hb; omega
    cases h
    refine AApply.ext (e := subE) (vs := [.int .u64 a, .int .u64 b, .int .u64 c]) (v := Extern.MathBitsCarry.pair ((a.toNat + 18446744073709551616 - b.toNat - c.toNat) % 18446744073709551616) (bif Nat.blt a.toNat (b.toNat + c.toNat) then 1 else 0)) Tryz.func186 rfl (by kernel_rfl) (by kernel_rfl) (by kernel_rfl) rfl (fun w => ?_) (fun Γ H w => pair_rel _ _ Γ H w) hK
    unfold subE
    rw [run_bind_ok (run_three _ w a b c hc)]
    by_cases hl : a.toNat < b.toNat + c.toNat
    · have : Nat.blt a.toNat (b.toNat + c.toNat) = true := by rw [Nat.blt_eq]; exact hl
      rw [this]
      simp only [hl, if_true, cond_true]
      rfl
    · have : Nat.blt a.toNat (b.toNat + c.toNat) = false := by
        cases h : Nat.blt a.toNat (b.toNat + c.toNat) with
        | false => rfl
        | true => rw [Nat.blt_eq] at h; exact absurd h hl
      rw [this]
      simp only [hl, if_false, cond_false]
      rfl
theorem addF_args : ∀ {args : List AVal} {r : AVal}, addF args = some r → ∃ a b c, args = [.lit (.int .u64 a), .lit (.int .u64 b), .lit (.int .u64 c)] := by
  intro args r h
  unfold addF at h
  split at h
  · exact ⟨_, _, _, rfl⟩
  · cases h
theorem subF_args : ∀ {args : List AVal} {r : AVal}, subF args = some r → ∃ a b c, args = [.lit (.int .u64 a), .lit (.int .u64 b), .lit (.int .u64 c)] := by
  intro args r h
  unfold subF at h
  split at h
  · exact ⟨_, _, _, rfl⟩
  · cases h
def extT : FuncId → Option (List AVal → Option AVal) := fun f => bif Nat.beq f 185 then some addF else bif Nat.beq f 186 then some subF else none
theorem extT_ok {E : EP} (hP : E.P = Tryz.prog) (hG : E.G = noGl) (hx : E.ext = extT) : ExtOk E := by
  intro f e h args r hr H K hK
  rw [hx] at h
  rw [hP, hG]
  unfold extT at h
  cases h1 : Nat.beq f 185 with
  | true =>
    rw [h1] at h
    have e1 := Nat.eq_of_beq_eq_true h1
    subst e1
    cases h
    obtain ⟨a, b, c, rfl⟩ := addF_args hr
    exact add_ext hr hK
  | false =>
  rw [h1] at h
  cases h2 : Nat.beq f 186 with
  | true =>
    rw [h2] at h
    have e1 := Nat.eq_of_beq_eq_true h2
    subst e1
    cases h
    obtain ⟨a, b, c, rfl⟩ := subF_args hr
    exact sub_ext hr hK
  | false => rw [h2] at h; cases h
def gdT : FuncId → Option GD := fun f => bif Nat.beq f 163 then some gdQ else bif Nat.beq f 139 then some gdI else none
theorem gdT_ok : ∀ f z, gdT f = some z → GdOk Tryz.prog noGl f z := by
  intro f z h
  unfold gdT at h
  cases h1 : Nat.beq f 163 with
  | true =>
    rw [h1] at h
    have e := Nat.eq_of_beq_eq_true h1
    subst e
    cases h
    exact gdQ_ok noGl_ok
  | false =>
    rw [h1] at h
    cases h2 : Nat.beq f 139 with
    | true =>
      rw [h2] at h
      have e := Nat.eq_of_beq_eq_true h2
      subst e
      cases h
      exact gdI_ok noGl_ok
    | false => rw [h2] at h; cases h
abbrev Tryz.Gk : Nat → Option (List AVal) := noGl
theorem Tryz.Gk_ok : GOk Tryz.Gk := noGl_ok
theorem Tryz.gd_ok : ∀ f z, gdT f = some z → GdOk Tryz.prog Tryz.Gk f z := gdT_ok
end Go.Proofs
/-
  Calls of this seat's program, reckoned out by the evaluator: what each of them gives. Laid by a program of ours.
-/
namespace Go.Proofs
open Go.Hx
set_option maxRecDepth 100000
theorem Tryz.mixedK : Tryz.prog.follows .mixedOrders = true := by kernel_rfl
noncomputable def Tryz.ep0 : EP := { P := Tryz.prog, G := Tryz.Gk, gd := gdT, known := knownOf [], ext := extT }
theorem Tryz.ep0_ok : EOk Tryz.ep0 := .of_known (l := []) rfl Tryz.Gk_ok Tryz.mixedK Tryz.gd_ok trivial (extT_ok rfl rfl rfl)
def Tryz.ka64_0 : List AVal := [.agg [.lit (.int .i64 2), .vec 3 [.lit (.int .i64 2), .lit (.slice none 0 0), .lit (.slice none 0 0), .lit (.int .i64 2), .lit (.slice none 0 0), .vec 1 [.vec 2 [.lit (.int .i64 1), .lit (.int .i64 1)]], .lit (.int .i64 2), .vec 1 [.lit (.int .i64 0)], .lit (.slice none 0 0)], .lit (.int .u64 5), .vec 2 [.vec 2 [.lit (.int .i64 0), .lit (.int .i64 1)], .vec 4 [.lit (.int .i64 4), .lit (.int .i64 0), .lit (.int .i64 0), .lit (.int .i64 4)], .vec 2 [.lit (.int .i64 1), .lit (.int .i64 2)], .vec 4 [.lit (.int .i64 4), .lit (.int .i64 0), .lit (.int .i64 0), .lit (.int .i64 4)]]]]
def Tryz.kv64_0 : AVal := .lit (.int .i64 0)
theorem Tryz.kc64_0 : chk Tryz.ep0 1000000 64 Tryz.ka64_0 Tryz.kv64_0 = true := by kernel_rfl
def Tryz.ka64_1 : List AVal := [.agg [.lit (.int .i64 2), .vec 3 [.lit (.int .i64 2), .vec 1 [.lit (.int .i64 1)], .lit (.slice none 0 0), .lit (.int .i64 2), .lit (.slice none 0 0), .vec 1 [.vec 2 [.lit (.int .i64 1), .lit (.int .i64 1)]], .lit (.int .i64 2), .vec 2 [.lit (.int .i64 0), .lit (.int .i64 1)], .lit (.slice none 0 0)], .lit (.int .u64 5), .vec 2 [.vec 2 [.lit (.int .i64 0), .lit (.int .i64 1)], .vec 4 [.lit (.int .i64 4), .lit (.int .i64 0), .lit (.int .i64 0), .lit (.int .i64 4)], .vec 2 [.lit (.int .i64 1), .lit (.int .i64 2)], .vec 4 [.lit (.int .i64 4), .lit (.int .i64 0), .lit (.int .i64 0), .lit (.int .i64 4)]]]]
def Tryz.kv64_1 : AVal := .lit (.int .i64 0)
theorem Tryz.kc64_1 : chk Tryz.ep0 1000000 64 Tryz.ka64_1 Tryz.kv64_1 = true := by kernel_rfl
def Tryz.ka64_2 : List AVal := [.agg [.lit (.int .i64 2), .vec 3 [.lit (.int .i64 2), .lit (.slice none 0 0), .lit (.slice none 0 0), .lit (.int .i64 2), .lit (.slice none 0 0), .vec 1 [.vec 2 [.lit (.int .i64 1), .lit (.int .i64 1)]], .lit (.int .i64 2), .vec 2 [.lit (.int .i64 0), .lit (.int .i64 1)], .lit (.slice none 0 0)], .lit (.int .u64 5), .vec 2 [.vec 2 [.lit (.int .i64 0), .lit (.int .i64 1)], .vec 4 [.lit (.int .i64 4), .lit (.int .i64 0), .lit (.int .i64 0), .lit (.int .i64 4)], .vec 2 [.lit (.int .i64 1), .lit (.int .i64 2)], .vec 4 [.lit (.int .i64 4), .lit (.int .i64 0), .lit (.int .i64 0), .lit (.int .i64 4)]]]]
def Tryz.kv64_2 : AVal := .lit (.int .i64 0)
theorem Tryz.kc64_2 : chk Tryz.ep0 1000000 64 Tryz.ka64_2 Tryz.kv64_2 = true := by kernel_rfl
def Tryz.ka64_3 : List AVal := [.agg [.lit (.int .i64 10), .vec 3 [.lit (.int .i64 2), .lit (.slice none 0 0), .vec 1 [.vec 2 [.lit (.int .i64 7), .lit (.int .i64 3)]], .lit (.int .i64 2), .vec 2 [.lit (.int .i64 0), .lit (.int .i64 2)], .vec 4 [.vec 2 [.lit (.int .i64 8), .lit (.int .i64 2)], .vec 2 [.lit (.int .i64 8), .lit (.int .i64 2)], .vec 2 [.lit (.int .i64 2), .lit (.int .i64 8)], .vec 2 [.lit (.int .i64 2), .lit (.int .i64 8)]], .lit (.int .i64 2), .lit (.slice none 0 0), .lit (.slice none 0 0)], .lit (.int .u64 4), .vec 1 [.vec 2 [.lit (.int .i64 0), .lit (.int .i64 2)], .vec 4 [.lit (.int .i64 100), .lit (.int .i64 20), .lit (.int .i64 0), .lit (.int .i64 70)]]]]
def Tryz.kv64_3 : AVal := .lit (.int .i64 0)
theorem Tryz.kc64_3 : chk Tryz.ep0 1000000 64 Tryz.ka64_3 Tryz.kv64_3 = true := by kernel_rfl
def Tryz.ka64_4 : List AVal := [.agg [.lit (.int .i64 0), .lit (.slice none 0 0), .lit (.int .u64 0), .lit (.slice none 0 0)]]
def Tryz.kv64_4 : AVal := .lit (.int .i64 200)
theorem Tryz.kc64_4 : chk Tryz.ep0 1000000 64 Tryz.ka64_4 Tryz.kv64_4 = true := by kernel_rfl
def Tryz.ka64_5 : List AVal := [.agg [.lit (.int .i64 1), .vec 2 [.lit (.int .i64 2), .lit (.slice none 0 0), .lit (.slice none 0 0), .lit (.int .i64 2), .lit (.slice none 0 0), .lit (.slice none 0 0)], .lit (.int .u64 3), .lit (.slice none 0 0)]]
def Tryz.kv64_5 : AVal := .lit (.int .i64 0)
theorem Tryz.kc64_5 : chk Tryz.ep0 1000000 64 Tryz.ka64_5 Tryz.kv64_5 = true := by kernel_rfl
def Tryz.ka64_6 : List AVal := [.agg [.lit (.int .i64 10), .vec 3 [.lit (.int .i64 2), .lit (.slice none 0 0), .vec 1 [.vec 2 [.lit (.int .i64 7), .lit (.int .i64 3)]], .lit (.int .i64 2), .vec 1 [.lit (.int .i64 0)], .vec 2 [.vec 2 [.lit (.int .i64 8), .lit (.int .i64 2)], .vec 2 [.lit (.int .i64 2), .lit (.int .i64 8)]], .lit (.int .i64 2), .lit (.slice none 0 0), .lit (.slice none 0 0)], .lit (.int .u64 4), .vec 1 [.vec 2 [.lit (.int .i64 0), .lit (.int .i64 2)], .vec 4 [.lit (.int .i64 100), .lit (.int .i64 20), .lit (.int .i64 0), .lit (.int .i64 70)]]]]
def Tryz.kv64_6 : AVal := .lit (.int .i64 0)
theorem Tryz.kc64_6 : chk Tryz.ep0 1000000 64 Tryz.ka64_6 Tryz.kv64_6 = true := by kernel_rfl
def Tryz.ka64_7 : List AVal := [.agg [.lit (.int .i64 10), .vec 3 [.lit (.int .i64 2), .lit (.slice none 0 0), .vec 1 [.vec 2 [.lit (.int .i64 7), .lit (.int .i64 3)]], .lit (.int .i64 2), .vec 1 [.lit (.int .i64 0)], .vec 2 [.vec 2 [.lit (.int .i64 8), .lit (.int .i64 2)], .vec 2 [.lit (.int .i64 2), .lit (.int .i64 8)]], .lit (.int .i64 2), .vec 1 [.lit (.int .i64 1)], .lit (.slice none 0 0)], .lit (.int .u64 4), .vec 1 [.vec 2 [.lit (.int .i64 0), .lit (.int .i64 2)], .vec 4 [.lit (.int .i64 100), .lit (.int .i64 20), .lit (.int .i64 0), .lit (.int .i64 70)]]]]
def Tryz.kv64_7 : AVal := .lit (.int .i64 0)
theorem Tryz.kc64_7 : chk Tryz.ep0 1000000 64 Tryz.ka64_7 Tryz.kv64_7 = true := by kernel_rfl
def Tryz.ka64_8 : List AVal := [.agg [.lit (.int .i64 10), .vec 3 [.lit (.int .i64 2), .lit (.slice none 0 0), .vec 1 [.vec 2 [.lit (.int .i64 7), .lit (.int .i64 3)]], .lit (.int .i64 2), .vec 1 [.lit (.int .i64 0)], .vec 2 [.vec 2 [.lit (.int .i64 8), .lit (.int .i64 2)], .vec 2 [.lit (.int .i64 2), .lit (.int .i64 8)]], .lit (.int .i64 2), .vec 1 [.lit (.int .i64 0)], .lit (.slice none 0 0)], .lit (.int .u64 4), .vec 1 [.vec 2 [.lit (.int .i64 0), .lit (.int .i64 2)], .vec 4 [.lit (.int .i64 100), .lit (.int .i64 20), .lit (.int .i64 0), .lit (.int .i64 70)]]]]
def Tryz.kv64_8 : AVal := .lit (.int .i64 0)
theorem Tryz.kc64_8 : chk Tryz.ep0 1000000 64 Tryz.ka64_8 Tryz.kv64_8 = true := by kernel_rfl
def Tryz.ka64_9 : List AVal := [.agg [.lit (.int .i64 10), .vec 3 [.lit (.int .i64 2), .lit (.slice none 0 0), .vec 1 [.vec 2 [.lit (.int .i64 7), .lit (.int .i64 3)]], .lit (.int .i64 2), .vec 1 [.lit (.int .i64 0)], .vec 2 [.vec 2 [.lit (.int .i64 8), .lit (.int .i64 2)], .vec 2 [.lit (.int .i64 2), .lit (.int .i64 8)]], .lit (.int .i64 2), .vec 2 [.lit (.int .i64 0), .lit (.int .i64 1)], .lit (.slice none 0 0)], .lit (.int .u64 4), .vec 1 [.vec 2 [.lit (.int .i64 0), .lit (.int .i64 2)], .vec 4 [.lit (.int .i64 100), .lit (.int .i64 20), .lit (.int .i64 0), .lit (.int .i64 70)]]]]
def Tryz.kv64_9 : AVal := .lit (.int .i64 0)
theorem Tryz.kc64_9 : chk Tryz.ep0 1000000 64 Tryz.ka64_9 Tryz.kv64_9 = true := by kernel_rfl
def Tryz.kn64 : KTab := [(Tryz.ka64_0, Tryz.kv64_0), (Tryz.ka64_1, Tryz.kv64_1), (Tryz.ka64_2, Tryz.kv64_2), (Tryz.ka64_3, Tryz.kv64_3), (Tryz.ka64_4, Tryz.kv64_4), (Tryz.ka64_5, Tryz.kv64_5), (Tryz.ka64_6, Tryz.kv64_6), (Tryz.ka64_7, Tryz.kv64_7), (Tryz.ka64_8, Tryz.kv64_8), (Tryz.ka64_9, Tryz.kv64_9)]
theorem Tryz.kn64_ok : KOk Tryz.prog Tryz.Gk 64 Tryz.kn64 := .cons (chk_ok Tryz.ep0_ok Tryz.kc64_0) (.cons (chk_ok Tryz.ep0_ok Tryz.kc64_1) (.cons (chk_ok Tryz.ep0_ok Tryz.kc64_2) (.cons (chk_ok Tryz.ep0_ok Tryz.kc64_3) (.cons (chk_ok Tryz.ep0_ok Tryz.kc64_4) (.cons (chk_ok Tryz.ep0_ok Tryz.kc64_5) (.cons (chk_ok Tryz.ep0_ok Tryz.kc64_6) (.cons (chk_ok Tryz.ep0_ok Tryz.kc64_7) (.cons (chk_ok Tryz.ep0_ok Tryz.kc64_8) (.cons (chk_ok Tryz.ep0_ok Tryz.kc64_9) .nil)))))))))
noncomputable def Tryz.ep1 : EP := { P := Tryz.prog, G := Tryz.Gk, gd := gdT, known := knownOf [(64, Tryz.kn64)], ext := extT }
theorem Tryz.ep1_ok : EOk Tryz.ep1 := .of_known (l := [(64, Tryz.kn64)]) rfl Tryz.Gk_ok Tryz.mixedK Tryz.gd_ok ⟨Tryz.kn64_ok, trivial⟩ (extT_ok rfl rfl rfl)
def Tryz.ka28_0 : List AVal := [.agg [.lit (.int .i64 2), .vec 3 [.lit (.int .i64 2), .lit (.slice none 0 0), .lit (.slice none 0 0), .lit (.int .i64 2), .lit (.slice none 0 0), .vec 1 [.vec 2 [.lit (.int .i64 1), .lit (.int .i64 1)]], .lit (.int .i64 2), .vec 1 [.lit (.int .i64 0)], .lit (.slice none 0 0)], .lit (.int .u64 5), .vec 2 [.vec 2 [.lit (.int .i64 0), .lit (.int .i64 1)], .vec 4 [.lit (.int .i64 4), .lit (.int .i64 0), .lit (.int .i64 0), .lit (.int .i64 4)], .vec 2 [.lit (.int .i64 1), .lit (.int .i64 2)], .vec 4 [.lit (.int .i64 4), .lit (.int .i64 0), .lit (.int .i64 0), .lit (.int .i64 4)]]]]
def Tryz.kv28_0 : AVal := .tup [.vec 2 [.lit (.int .i64 0), .lit (.int .i64 2)], .lit (.int .i64 0)]
theorem Tryz.kc28_0 : chk Tryz.ep1 1000000 28 Tryz.ka28_0 Tryz.kv28_0 = true := by kernel_rfl
def Tryz.ka28_1 : List AVal := [.agg [.lit (.int .i64 2), .vec 3 [.lit (.int .i64 2), .vec 1 [.lit (.int .i64 1)], .lit (.slice none 0 0), .lit (.int .i64 2), .lit (.slice none 0 0), .vec 1 [.vec 2 [.lit (.int .i64 1), .lit (.int .i64 1)]], .lit (.int .i64 2), .vec 2 [.lit (.int .i64 0), .lit (.int .i64 1)], .lit (.slice none 0 0)], .lit (.int .u64 5), .vec 2 [.vec 2 [.lit (.int .i64 0), .lit (.int .i64 1)], .vec 4 [.lit (.int .i64 4), .lit (.int .i64 0), .lit (.int .i64 0), .lit (.int .i64 4)], .vec 2 [.lit (.int .i64 1), .lit (.int .i64 2)], .vec 4 [.lit (.int .i64 4), .lit (.int .i64 0), .lit (.int .i64 0), .lit (.int .i64 4)]]]]
def Tryz.kv28_1 : AVal := .tup [.vec 2 [.lit (.int .i64 0), .lit (.int .i64 2)], .lit (.int .i64 0)]
theorem Tryz.kc28_1 : chk Tryz.ep1 1000000 28 Tryz.ka28_1 Tryz.kv28_1 = true := by kernel_rfl
def Tryz.ka28_2 : List AVal := [.agg [.lit (.int .i64 2), .vec 3 [.lit (.int .i64 2), .lit (.slice none 0 0), .lit (.slice none 0 0), .lit (.int .i64 2), .lit (.slice none 0 0), .vec 1 [.vec 2 [.lit (.int .i64 1), .lit (.int .i64 1)]], .lit (.int .i64 2), .vec 2 [.lit (.int .i64 0), .lit (.int .i64 1)], .lit (.slice none 0 0)], .lit (.int .u64 5), .vec 2 [.vec 2 [.lit (.int .i64 0), .lit (.int .i64 1)], .vec 4 [.lit (.int .i64 4), .lit (.int .i64 0), .lit (.int .i64 0), .lit (.int .i64 4)], .vec 2 [.lit (.int .i64 1), .lit (.int .i64 2)], .vec 4 [.lit (.int .i64 4), .lit (.int .i64 0), .lit (.int .i64 0), .lit (.int .i64 4)]]]]
def Tryz.kv28_2 : AVal := .tup [.vec 2 [.lit (.int .i64 0), .lit (.int .i64 2)], .lit (.int .i64 0)]
theorem Tryz.kc28_2 : chk Tryz.ep1 1000000 28 Tryz.ka28_2 Tryz.kv28_2 = true := by kernel_rfl
def Tryz.ka28_3 : List AVal := [.agg [.lit (.int .i64 10), .vec 3 [.lit (.int .i64 2), .lit (.slice none 0 0), .vec 1 [.vec 2 [.lit (.int .i64 7), .lit (.int .i64 3)]], .lit (.int .i64 2), .vec 2 [.lit (.int .i64 0), .lit (.int .i64 2)], .vec 4 [.vec 2 [.lit (.int .i64 8), .lit (.int .i64 2)], .vec 2 [.lit (.int .i64 8), .lit (.int .i64 2)], .vec 2 [.lit (.int .i64 2), .lit (.int .i64 8)], .vec 2 [.lit (.int .i64 2), .lit (.int .i64 8)]], .lit (.int .i64 2), .lit (.slice none 0 0), .lit (.slice none 0 0)], .lit (.int .u64 4), .vec 1 [.vec 2 [.lit (.int .i64 0), .lit (.int .i64 2)], .vec 4 [.lit (.int .i64 100), .lit (.int .i64 20), .lit (.int .i64 0), .lit (.int .i64 70)]]]]
def Tryz.kv28_3 : AVal := .tup [.vec 1 [.lit (.int .i64 2)], .lit (.int .i64 0)]
theorem Tryz.kc28_3 : chk Tryz.ep1 1000000 28 Tryz.ka28_3 Tryz.kv28_3 = true := by kernel_rfl
def Tryz.ka28_4 : List AVal := [.agg [.lit (.int .i64 0), .lit (.slice none 0 0), .lit (.int .u64 0), .lit (.slice none 0 0)]]
def Tryz.kv28_4 : AVal := .tup [.lit (.slice none 0 0), .lit (.int .i64 200)]
theorem Tryz.kc28_4 : chk Tryz.ep1 1000000 28 Tryz.ka28_4 Tryz.kv28_4 = true := by kernel_rfl
def Tryz.ka28_5 : List AVal := [.agg [.lit (.int .i64 1), .vec 2 [.lit (.int .i64 2), .lit (.slice none 0 0), .lit (.slice none 0 0), .lit (.int .i64 2), .lit (.slice none 0 0), .lit (.slice none 0 0)], .lit (.int .u64 3), .lit (.slice none 0 0)]]
def Tryz.kv28_5 : AVal := .tup [.lit (.slice none 0 0), .lit (.int .i64 4)]
theorem Tryz.kc28_5 : chk Tryz.ep1 1000000 28 Tryz.ka28_5 Tryz.kv28_5 = true := by kernel_rfl
def Tryz.ka28_6 : List AVal := [.agg [.lit (.int .i64 10), .vec 3 [.lit (.int .i64 2), .lit (.slice none 0 0), .vec 1 [.vec 2 [.lit (.int .i64 7), .lit (.int .i64 3)]], .lit (.int .i64 2), .vec 1 [.lit (.int .i64 0)], .vec 2 [.vec 2 [.lit (.int .i64 8), .lit (.int .i64 2)], .vec 2 [.lit (.int .i64 2), .lit (.int .i64 8)]], .lit (.int .i64 2), .lit (.slice none 0 0), .lit (.slice none 0 0)], .lit (.int .u64 4), .vec 1 [.vec 2 [.lit (.int .i64 0), .lit (.int .i64 2)], .vec 4 [.lit (.int .i64 100), .lit (.int .i64 20), .lit (.int .i64 0), .lit (.int .i64 70)]]]]
def Tryz.kv28_6 : AVal := .tup [.vec 1 [.lit (.int .i64 2)], .lit (.int .i64 0)]
theorem Tryz.kc28_6 : chk Tryz.ep1 1000000 28 Tryz.ka28_6 Tryz.kv28_6 = true := by kernel_rfl
def Tryz.ka28_7 : List AVal := [.agg [.lit (.int .i64 10), .vec 3 [.lit (.int .i64 2), .lit (.slice none 0 0), .vec 1 [.vec 2 [.lit (.int .i64 7), .lit (.int .i64 3)]], .lit (.int .i64 2), .vec 1 [.lit (.int .i64 0)], .vec 2 [.vec 2 [.lit (.int .i64 8), .lit (.int .i64 2)], .vec 2 [.lit (.int .i64 2), .lit (.int .i64 8)]], .lit (.int .i64 2), .vec 1 [.lit (.int .i64 1)], .lit (.slice none 0 0)], .lit (.int .u64 4), .vec 1 [.vec 2 [.lit (.int .i64 0), .lit (.int .i64 2)], .vec 4 [.lit (.int .i64 100), .lit (.int .i64 20), .lit (.int .i64 0), .lit (.int .i64 70)]]]]
def Tryz.kv28_7 : AVal := .tup [.vec 1 [.lit (.int .i64 2)], .lit (.int .i64 0)]
theorem Tryz.kc28_7 : chk Tryz.ep1 1000000 28 Tryz.ka28_7 Tryz.kv28_7 = true := by kernel_rfl
def Tryz.ka28_8 : List AVal := [.agg [.lit (.int .i64 10), .vec 3 [.lit (.int .i64 2), .lit (.slice none 0 0), .vec 1 [.vec 2 [.lit (.int .i64 7), .lit (.int .i64 3)]], .lit (.int .i64 2), .vec 1 [.lit (.int .i64 0)], .vec 2 [.vec 2 [.lit (.int .i64 8), .lit (.int .i64 2)], .vec 2 [.lit (.int .i64 2), .lit (.int .i64 8)]], .lit (.int .i64 2), .vec 1 [.lit (.int .i64 0)], .lit (.slice none 0 0)], .lit (.int .u64 4), .vec 1 [.vec 2 [.lit (.int .i64 0), .lit (.int .i64 2)], .vec 4 [.lit (.int .i64 100), .lit (.int .i64 20), .lit (.int .i64 0), .lit (.int .i64 70)]]]]
def Tryz.kv28_8 : AVal := .tup [.vec 1 [.lit (.int .i64 2)], .lit (.int .i64 0)]
theorem Tryz.kc28_8 : chk Tryz.ep1 1000000 28 Tryz.ka28_8 Tryz.kv28_8 = true := by kernel_rfl
def Tryz.ka28_9 : List AVal := [.agg [.lit (.int .i64 10), .vec 3 [.lit (.int .i64 2), .lit (.slice none 0 0), .vec 1 [.vec 2 [.lit (.int .i64 7), .lit (.int .i64 3)]], .lit (.int .i64 2), .vec 1 [.lit (.int .i64 0)], .vec 2 [.vec 2 [.lit (.int .i64 8), .lit (.int .i64 2)], .vec 2 [.lit (.int .i64 2), .lit (.int .i64 8)]], .lit (.int .i64 2), .vec 2 [.lit (.int .i64 0), .lit (.int .i64 1)], .lit (.slice none 0 0)], .lit (.int .u64 4), .vec 1 [.vec 2 [.lit (.int .i64 0), .lit (.int .i64 2)], .vec 4 [.lit (.int .i64 100), .lit (.int .i64 20), .lit (.int .i64 0), .lit (.int .i64 70)]]]]
def Tryz.kv28_9 : AVal := .tup [.vec 1 [.lit (.int .i64 2)], .lit (.int .i64 0)]
theorem Tryz.kc28_9 : chk Tryz.ep1 1000000 28 Tryz.ka28_9 Tryz.kv28_9 = true := by kernel_rfl
def Tryz.kn28 : KTab := [(Tryz.ka28_0, Tryz.kv28_0), (Tryz.ka28_1, Tryz.kv28_1), (Tryz.ka28_2, Tryz.kv28_2), (Tryz.ka28_3, Tryz.kv28_3), (Tryz.ka28_4, Tryz.kv28_4), (Tryz.ka28_5, Tryz.kv28_5), (Tryz.ka28_6, Tryz.kv28_6), (Tryz.ka28_7, Tryz.kv28_7), (Tryz.ka28_8, Tryz.kv28_8), (Tryz.ka28_9, Tryz.kv28_9)]
theorem Tryz.kn28_ok : KOk Tryz.prog Tryz.Gk 28 Tryz.kn28 := .cons (chk_ok Tryz.ep1_ok Tryz.kc28_0) (.cons (chk_ok Tryz.ep1_ok Tryz.kc28_1) (.cons (chk_ok Tryz.ep1_ok Tryz.kc28_2) (.cons (chk_ok Tryz.ep1_ok Tryz.kc28_3) (.cons (chk_ok Tryz.ep1_ok Tryz.kc28_4) (.cons (chk_ok Tryz.ep1_ok Tryz.kc28_5) (.cons (chk_ok Tryz.ep1_ok Tryz.kc28_6) (.cons (chk_ok Tryz.ep1_ok Tryz.kc28_7) (.cons (chk_ok Tryz.ep1_ok Tryz.kc28_8) (.cons (chk_ok Tryz.ep1_ok Tryz.kc28_9) .nil)))))))))
noncomputable def Tryz.ep2 : EP := { P := Tryz.prog, G := Tryz.Gk, gd := gdT, known := knownOf [(64, Tryz.kn64), (28, Tryz.kn28)], ext := extT }
theorem Tryz.ep2_ok : EOk Tryz.ep2 := .of_known (l := [(64, Tryz.kn64), (28, Tryz.kn28)]) rfl Tryz.Gk_ok Tryz.mixedK Tryz.gd_ok ⟨Tryz.kn64_ok, ⟨Tryz.kn28_ok, trivial⟩⟩ (extT_ok rfl rfl rfl)
def Tryz.ka29_0 : List AVal := [.agg [.lit (.int .i64 2), .vec 3 [.lit (.int .i64 2), .lit (.slice none 0 0), .lit (.slice none 0 0), .lit (.int .i64 2), .lit (.slice none 0 0), .vec 1 [.vec 2 [.lit (.int .i64 1), .lit (.int .i64 1)]], .lit (.int .i64 2), .vec 1 [.lit (.int .i64 0)], .lit (.slice none 0 0)], .lit (.int .u64 5), .vec 2 [.vec 2 [.lit (.int .i64 0), .lit (.int .i64 1)], .vec 4 [.lit (.int .i64 4), .lit (.int .i64 0), .lit (.int .i64 0), .lit (.int .i64 4)], .vec 2 [.lit (.int .i64 1), .lit (.int .i64 2)], .vec 4 [.lit (.int .i64 4), .lit (.int .i64 0), .lit (.int .i64 0), .lit (.int .i64 4)]]]]
def Tryz.kv29_0 : AVal := .tup [.agg [.lit (.int .i64 4), .lit (.int .i64 1)], .lit (.int .i64 0)]
theorem Tryz.kc29_0 : chk Tryz.ep2 1000000 29 Tryz.ka29_0 Tryz.kv29_0 = true := by kernel_rfl
def Tryz.ka29_1 : List AVal := [.agg [.lit (.int .i64 2), .vec 3 [.lit (.int .i64 2), .vec 1 [.lit (.int .i64 1)], .lit (.slice none 0 0), .lit (.int .i64 2), .lit (.slice none 0 0), .vec 1 [.vec 2 [.lit (.int .i64 1), .lit (.int .i64 1)]], .lit (.int .i64 2), .vec 2 [.lit (.int .i64 0), .lit (.int .i64 1)], .lit (.slice none 0 0)], .lit (.int .u64 5), .vec 2 [.vec 2 [.lit (.int .i64 0), .lit (.int .i64 1)], .vec 4 [.lit (.int .i64 4), .lit (.int .i64 0), .lit (.int .i64 0), .lit (.int .i64 4)], .vec 2 [.lit (.int .i64 1), .lit (.int .i64 2)], .vec 4 [.lit (.int .i64 4), .lit (.int .i64 0), .lit (.int .i64 0), .lit (.int .i64 4)]]]]
def Tryz.kv29_1 : AVal := .tup [.agg [.lit (.int .i64 8), .lit (.int .i64 1)], .lit (.int .i64 0)]
theorem Tryz.kc29_1 : chk Tryz.ep2 1000000 29 Tryz.ka29_1 Tryz.kv29_1 = true := by kernel_rfl
def Tryz.ka29_2 : List AVal := [.agg [.lit (.int .i64 2), .vec 3 [.lit (.int .i64 2), .lit (.slice none 0 0), .lit (.slice none 0 0), .lit (.int .i64 2), .lit (.slice none 0 0), .vec 1 [.vec 2 [.lit (.int .i64 1), .lit (.int .i64 1)]], .lit (.int .i64 2), .vec 2 [.lit (.int .i64 0), .lit (.int .i64 1)], .lit (.slice none 0 0)], .lit (.int .u64 5), .vec 2 [.vec 2 [.lit (.int .i64 0), .lit (.int .i64 1)], .vec 4 [.lit (.int .i64 4), .lit (.int .i64 0), .lit (.int .i64 0), .lit (.int .i64 4)], .vec 2 [.lit (.int .i64 1), .lit (.int .i64 2)], .vec 4 [.lit (.int .i64 4), .lit (.int .i64 0), .lit (.int .i64 0), .lit (.int .i64 4)]]]]
def Tryz.kv29_2 : AVal := .tup [.agg [.lit (.int .i64 6), .lit (.int .i64 1)], .lit (.int .i64 0)]
theorem Tryz.kc29_2 : chk Tryz.ep2 1000000 29 Tryz.ka29_2 Tryz.kv29_2 = true := by kernel_rfl
def Tryz.ka29_3 : List AVal := [.agg [.lit (.int .i64 10), .vec 3 [.lit (.int .i64 2), .lit (.slice none 0 0), .vec 1 [.vec 2 [.lit (.int .i64 7), .lit (.int .i64 3)]], .lit (.int .i64 2), .vec 1 [.lit (.int .i64 0)], .vec 2 [.vec 2 [.lit (.int .i64 8), .lit (.int .i64 2)], .vec 2 [.lit (.int .i64 2), .lit (.int .i64 8)]], .lit (.int .i64 2), .lit (.slice none 0 0), .lit (.slice none 0 0)], .lit (.int .u64 4), .vec 1 [.vec 2 [.lit (.int .i64 0), .lit (.int .i64 2)], .vec 4 [.lit (.int .i64 100), .lit (.int .i64 20), .lit (.int .i64 0), .lit (.int .i64 70)]]]]
def Tryz.kv29_3 : AVal := .tup [.agg [.lit (.int .i64 70), .lit (.int .i64 1)], .lit (.int .i64 0)]
theorem Tryz.kc29_3 : chk Tryz.ep2 1000000 29 Tryz.ka29_3 Tryz.kv29_3 = true := by kernel_rfl
def Tryz.ka29_4 : List AVal := [.agg [.lit (.int .i64 10), .vec 3 [.lit (.int .i64 2), .lit (.slice none 0 0), .vec 1 [.vec 2 [.lit (.int .i64 7), .lit (.int .i64 3)]], .lit (.int .i64 2), .vec 1 [.lit (.int .i64 0)], .vec 2 [.vec 2 [.lit (.int .i64 8), .lit (.int .i64 2)], .vec 2 [.lit (.int .i64 2), .lit (.int .i64 8)]], .lit (.int .i64 2), .vec 1 [.lit (.int .i64 1)], .lit (.slice none 0 0)], .lit (.int .u64 4), .vec 1 [.vec 2 [.lit (.int .i64 0), .lit (.int .i64 2)], .vec 4 [.lit (.int .i64 100), .lit (.int .i64 20), .lit (.int .i64 0), .lit (.int .i64 70)]]]]
def Tryz.kv29_4 : AVal := .tup [.agg [.lit (.int .i64 378), .lit (.int .i64 5)], .lit (.int .i64 0)]
theorem Tryz.kc29_4 : chk Tryz.ep2 1000000 29 Tryz.ka29_4 Tryz.kv29_4 = true := by kernel_rfl
def Tryz.ka29_5 : List AVal := [.agg [.lit (.int .i64 10), .vec 3 [.lit (.int .i64 2), .lit (.slice none 0 0), .vec 1 [.vec 2 [.lit (.int .i64 7), .lit (.int .i64 3)]], .lit (.int .i64 2), .vec 1 [.lit (.int .i64 0)], .vec 2 [.vec 2 [.lit (.int .i64 8), .lit (.int .i64 2)], .vec 2 [.lit (.int .i64 2), .lit (.int .i64 8)]], .lit (.int .i64 2), .vec 1 [.lit (.int .i64 0)], .lit (.slice none 0 0)], .lit (.int .u64 4), .vec 1 [.vec 2 [.lit (.int .i64 0), .lit (.int .i64 2)], .vec 4 [.lit (.int .i64 100), .lit (.int .i64 20), .lit (.int .i64 0), .lit (.int .i64 70)]]]]
def Tryz.kv29_5 : AVal := .tup [.agg [.lit (.int .i64 91), .lit (.int .i64 1)], .lit (.int .i64 0)]
theorem Tryz.kc29_5 : chk Tryz.ep2 1000000 29 Tryz.ka29_5 Tryz.kv29_5 = true := by kernel_rfl
def Tryz.ka29_6 : List AVal := [.agg [.lit (.int .i64 10), .vec 3 [.lit (.int .i64 2), .lit (.slice none 0 0), .vec 1 [.vec 2 [.lit (.int .i64 7), .lit (.int .i64 3)]], .lit (.int .i64 2), .vec 1 [.lit (.int .i64 0)], .vec 2 [.vec 2 [.lit (.int .i64 8), .lit (.int .i64 2)], .vec 2 [.lit (.int .i64 2), .lit (.int .i64 8)]], .lit (.int .i64 2), .vec 2 [.lit (.int .i64 0), .lit (.int .i64 1)], .lit (.slice none 0 0)], .lit (.int .u64 4), .vec 1 [.vec 2 [.lit (.int .i64 0), .lit (.int .i64 2)], .vec 4 [.lit (.int .i64 100), .lit (.int .i64 20), .lit (.int .i64 0), .lit (.int .i64 70)]]]]
def Tryz.kv29_6 : AVal := .tup [.agg [.lit (.int .i64 91), .lit (.int .i64 1)], .lit (.int .i64 0)]
theorem Tryz.kc29_6 : chk Tryz.ep2 1000000 29 Tryz.ka29_6 Tryz.kv29_6 = true := by kernel_rfl
def Tryz.kn29 : KTab := [(Tryz.ka29_0, Tryz.kv29_0), (Tryz.ka29_1, Tryz.kv29_1), (Tryz.ka29_2, Tryz.kv29_2), (Tryz.ka29_3, Tryz.kv29_3), (Tryz.ka29_4, Tryz.kv29_4), (Tryz.ka29_5, Tryz.kv29_5), (Tryz.ka29_6, Tryz.kv29_6)]
theorem Tryz.kn29_ok : KOk Tryz.prog Tryz.Gk 29 Tryz.kn29 := .cons (chk_ok Tryz.ep2_ok Tryz.kc29_0) (.cons (chk_ok Tryz.ep2_ok Tryz.kc29_1) (.cons (chk_ok Tryz.ep2_ok Tryz.kc29_2) (.cons (chk_ok Tryz.ep2_ok Tryz.kc29_3) (.cons (chk_ok Tryz.ep2_ok Tryz.kc29_4) (.cons (chk_ok Tryz.ep2_ok Tryz.kc29_5) (.cons (chk_ok Tryz.ep2_ok Tryz.kc29_6) .nil))))))
noncomputable def Tryz.ep3 : EP := { P := Tryz.prog, G := Tryz.Gk, gd := gdT, known := knownOf [(64, Tryz.kn64), (28, Tryz.kn28), (29, Tryz.kn29)], ext := extT }
theorem Tryz.ep3_ok : EOk Tryz.ep3 := .of_known (l := [(64, Tryz.kn64), (28, Tryz.kn28), (29, Tryz.kn29)]) rfl Tryz.Gk_ok Tryz.mixedK Tryz.gd_ok ⟨Tryz.kn64_ok, ⟨Tryz.kn28_ok, ⟨Tryz.kn29_ok, trivial⟩⟩⟩ (extT_ok rfl rfl rfl)
def Tryz.ka13_0 : List AVal := [.agg [.lit (.int .i64 2), .vec 3 [.lit (.int .i64 2), .lit (.slice none 0 0), .lit (.slice none 0 0), .lit (.int .i64 2), .lit (.slice none 0 0), .vec 1 [.vec 2 [.lit (.int .i64 1), .lit (.int .i64 1)]], .lit (.int .i64 2), .vec 1 [.lit (.int .i64 0)], .lit (.slice none 0 0)], .lit (.int .u64 5), .vec 2 [.vec 2 [.lit (.int .i64 0), .lit (.int .i64 1)], .vec 4 [.lit (.int .i64 4), .lit (.int .i64 0), .lit (.int .i64 0), .lit (.int .i64 4)], .vec 2 [.lit (.int .i64 1), .lit (.int .i64 2)], .vec 4 [.lit (.int .i64 4), .lit (.int .i64 0), .lit (.int .i64 0), .lit (.int .i64 4)]]], .lit (.int .i64 0)]
def Tryz.kv13_0 : AVal := .tup [.lit (.int .u64 2), .lit (.int .i64 0)]
theorem Tryz.kc13_0 : chk Tryz.ep3 1000000 13 Tryz.ka13_0 Tryz.kv13_0 = true := by kernel_rfl
def Tryz.ka13_1 : List AVal := [.agg [.lit (.int .i64 10), .vec 3 [.lit (.int .i64 2), .lit (.slice none 0 0), .vec 1 [.vec 2 [.lit (.int .i64 7), .lit (.int .i64 3)]], .lit (.int .i64 2), .vec 2 [.lit (.int .i64 0), .lit (.int .i64 2)], .vec 4 [.vec 2 [.lit (.int .i64 8), .lit (.int .i64 2)], .vec 2 [.lit (.int .i64 8), .lit (.int .i64 2)], .vec 2 [.lit (.int .i64 2), .lit (.int .i64 8)], .vec 2 [.lit (.int .i64 2), .lit (.int .i64 8)]], .lit (.int .i64 2), .lit (.slice none 0 0), .lit (.slice none 0 0)], .lit (.int .u64 4), .vec 1 [.vec 2 [.lit (.int .i64 0), .lit (.int .i64 2)], .vec 4 [.lit (.int .i64 100), .lit (.int .i64 20), .lit (.int .i64 0), .lit (.int .i64 70)]]], .lit (.int .i64 2)]
def Tryz.kv13_1 : AVal := .tup [.lit (.int .u64 1), .lit (.int .i64 0)]
theorem Tryz.kc13_1 : chk Tryz.ep3 1000000 13 Tryz.ka13_1 Tryz.kv13_1 = true := by kernel_rfl
def Tryz.ka13_2 : List AVal := [.agg [.lit (.int .i64 0), .lit (.slice none 0 0), .lit (.int .u64 0), .lit (.slice none 0 0)], .lit (.int .i64 9)]
def Tryz.kv13_2 : AVal := .tup [.lit (.int .u64 0), .lit (.int .i64 200)]
theorem Tryz.kc13_2 : chk Tryz.ep3 1000000 13 Tryz.ka13_2 Tryz.kv13_2 = true := by kernel_rfl
def Tryz.ka13_3 : List AVal := [.agg [.lit (.int .i64 10), .vec 3 [.lit (.int .i64 2), .lit (.slice none 0 0), .vec 1 [.vec 2 [.lit (.int .i64 7), .lit (.int .i64 3)]], .lit (.int .i64 2), .vec 1 [.lit (.int .i64 0)], .vec 2 [.vec 2 [.lit (.int .i64 8), .lit (.int .i64 2)], .vec 2 [.lit (.int .i64 2), .lit (.int .i64 8)]], .lit (.int .i64 2), .lit (.slice none 0 0), .lit (.slice none 0 0)], .lit (.int .u64 4), .vec 1 [.vec 2 [.lit (.int .i64 0), .lit (.int .i64 2)], .vec 4 [.lit (.int .i64 100), .lit (.int .i64 20), .lit (.int .i64 0), .lit (.int .i64 70)]]], .lit (.int .i64 2)]
def Tryz.kv13_3 : AVal := .tup [.lit (.int .u64 3), .lit (.int .i64 0)]
theorem Tryz.kc13_3 : chk Tryz.ep3 1000000 13 Tryz.ka13_3 Tryz.kv13_3 = true := by kernel_rfl
def Tryz.kn13 : KTab := [(Tryz.ka13_0, Tryz.kv13_0), (Tryz.ka13_1, Tryz.kv13_1), (Tryz.ka13_2, Tryz.kv13_2), (Tryz.ka13_3, Tryz.kv13_3)]
theorem Tryz.kn13_ok : KOk Tryz.prog Tryz.Gk 13 Tryz.kn13 := .cons (chk_ok Tryz.ep3_ok Tryz.kc13_0) (.cons (chk_ok Tryz.ep3_ok Tryz.kc13_1) (.cons (chk_ok Tryz.ep3_ok Tryz.kc13_2) (.cons (chk_ok Tryz.ep3_ok Tryz.kc13_3) .nil)))
noncomputable def Tryz.ep4 : EP := { P := Tryz.prog, G := Tryz.Gk, gd := gdT, known := knownOf [(64, Tryz.kn64), (28, Tryz.kn28), (29, Tryz.kn29), (13, Tryz.kn13)], ext := extT }
theorem Tryz.ep4_ok : EOk Tryz.ep4 := .of_known (l := [(64, Tryz.kn64), (28, Tryz.kn28), (29, Tryz.kn29), (13, Tryz.kn13)]) rfl Tryz.Gk_ok Tryz.mixedK Tryz.gd_ok ⟨Tryz.kn64_ok, ⟨Tryz.kn28_ok, ⟨Tryz.kn29_ok, ⟨Tryz.kn13_ok, trivial⟩⟩⟩⟩ (extT_ok rfl rfl rfl)
def Tryz.ka16_0 : List AVal := [.agg [.lit (.int .i64 2), .vec 3 [.lit (.int .i64 2), .lit (.slice none 0 0), .lit (.slice none 0 0), .lit (.int .i64 2), .lit (.slice none 0 0), .vec 1 [.vec 2 [.lit (.int .i64 1), .lit (.int .i64 1)]], .lit (.int .i64 2), .vec 1 [.lit (.int .i64 0)], .lit (.slice none 0 0)], .lit (.int .u64 5), .vec 2 [.vec 2 [.lit (.int .i64 0), .lit (.int .i64 1)], .vec 4 [.lit (.int .i64 4), .lit (.int .i64 0), .lit (.int .i64 0), .lit (.int .i64 4)], .vec 2 [.lit (.int .i64 1), .lit (.int .i64 2)], .vec 4 [.lit (.int .i64 4), .lit (.int .i64 0), .lit (.int .i64 0), .lit (.int .i64 4)]]], .lit (.int .i64 0), .lit (.int .u64 2)]
def Tryz.kv16_0 : AVal := .tup [.agg [.lit (.int .i64 2), .vec 3 [.lit (.int .i64 2), .vec 1 [.lit (.int .i64 1)], .lit (.slice none 0 0), .lit (.int .i64 2), .lit (.slice none 0 0), .vec 1 [.vec 2 [.lit (.int .i64 1), .lit (.int .i64 1)]], .lit (.int .i64 2), .vec 2 [.lit (.int .i64 0), .lit (.int .i64 1)], .lit (.slice none 0 0)], .lit (.int .u64 5), .vec 2 [.vec 2 [.lit (.int .i64 0), .lit (.int .i64 1)], .vec 4 [.lit (.int .i64 4), .lit (.int .i64 0), .lit (.int .i64 0), .lit (.int .i64 4)], .vec 2 [.lit (.int .i64 1), .lit (.int .i64 2)], .vec 4 [.lit (.int .i64 4), .lit (.int .i64 0), .lit (.int .i64 0), .lit (.int .i64 4)]]], .lit (.int .i64 0)]
theorem Tryz.kc16_0 : chk Tryz.ep4 1000000 16 Tryz.ka16_0 Tryz.kv16_0 = true := by kernel_rfl
def Tryz.ka16_1 : List AVal := [.agg [.lit (.int .i64 10), .vec 3 [.lit (.int .i64 2), .lit (.slice none 0 0), .vec 1 [.vec 2 [.lit (.int .i64 7), .lit (.int .i64 3)]], .lit (.int .i64 2), .vec 2 [.lit (.int .i64 0), .lit (.int .i64 2)], .vec 4 [.vec 2 [.lit (.int .i64 8), .lit (.int .i64 2)], .vec 2 [.lit (.int .i64 8), .lit (.int .i64 2)], .vec 2 [.lit (.int .i64 2), .lit (.int .i64 8)], .vec 2 [.lit (.int .i64 2), .lit (.int .i64 8)]], .lit (.int .i64 2), .lit (.slice none 0 0), .lit (.slice none 0 0)], .lit (.int .u64 4), .vec 1 [.vec 2 [.lit (.int .i64 0), .lit (.int .i64 2)], .vec 4 [.lit (.int .i64 100), .lit (.int .i64 20), .lit (.int .i64 0), .lit (.int .i64 70)]]], .lit (.int .i64 2), .lit (.int .u64 2)]
def Tryz.kv16_1 : AVal := .tup [.agg [.lit (.int .i64 0), .lit (.slice none 0 0), .lit (.int .u64 0), .lit (.slice none 0 0)], .lit (.int .i64 2)]
theorem Tryz.kc16_1 : chk Tryz.ep4 1000000 16 Tryz.ka16_1 Tryz.kv16_1 = true := by kernel_rfl
def Tryz.ka16_2 : List AVal := [.agg [.lit (.int .i64 10), .vec 3 [.lit (.int .i64 2), .lit (.slice none 0 0), .vec 1 [.vec 2 [.lit (.int .i64 7), .lit (.int .i64 3)]], .lit (.int .i64 2), .vec 1 [.lit (.int .i64 0)], .vec 2 [.vec 2 [.lit (.int .i64 8), .lit (.int .i64 2)], .vec 2 [.lit (.int .i64 2), .lit (.int .i64 8)]], .lit (.int .i64 2), .lit (.slice none 0 0), .lit (.slice none 0 0)], .lit (.int .u64 4), .vec 1 [.vec 2 [.lit (.int .i64 0), .lit (.int .i64 2)], .vec 4 [.lit (.int .i64 100), .lit (.int .i64 20), .lit (.int .i64 0), .lit (.int .i64 70)]]], .lit (.int .i64 (-1)), .lit (.int .u64 0)]
def Tryz.kv16_2 : AVal := .tup [.agg [.lit (.int .i64 0), .lit (.slice none 0 0), .lit (.int .u64 0), .lit (.slice none 0 0)], .lit (.int .i64 2)]
theorem Tryz.kc16_2 : chk Tryz.ep4 1000000 16 Tryz.ka16_2 Tryz.kv16_2 = true := by kernel_rfl
def Tryz.ka16_3 : List AVal := [.agg [.lit (.int .i64 10), .vec 3 [.lit (.int .i64 2), .lit (.slice none 0 0), .vec 1 [.vec 2 [.lit (.int .i64 7), .lit (.int .i64 3)]], .lit (.int .i64 2), .vec 1 [.lit (.int .i64 0)], .vec 2 [.vec 2 [.lit (.int .i64 8), .lit (.int .i64 2)], .vec 2 [.lit (.int .i64 2), .lit (.int .i64 8)]], .lit (.int .i64 2), .lit (.slice none 0 0), .lit (.slice none 0 0)], .lit (.int .u64 4), .vec 1 [.vec 2 [.lit (.int .i64 0), .lit (.int .i64 2)], .vec 4 [.lit (.int .i64 100), .lit (.int .i64 20), .lit (.int .i64 0), .lit (.int .i64 70)]]], .lit (.int .i64 2), .lit (.int .u64 9223372036854775808)]
def Tryz.kv16_3 : AVal := .tup [.agg [.lit (.int .i64 0), .lit (.slice none 0 0), .lit (.int .u64 0), .lit (.slice none 0 0)], .lit (.int .i64 2)]
theorem Tryz.kc16_3 : chk Tryz.ep4 1000000 16 Tryz.ka16_3 Tryz.kv16_3 = true := by kernel_rfl
def Tryz.ka16_4 : List AVal := [.agg [.lit (.int .i64 10), .vec 3 [.lit (.int .i64 2), .lit (.slice none 0 0), .vec 1 [.vec 2 [.lit (.int .i64 7), .lit (.int .i64 3)]], .lit (.int .i64 2), .vec 1 [.lit (.int .i64 0)], .vec 2 [.vec 2 [.lit (.int .i64 8), .lit (.int .i64 2)], .vec 2 [.lit (.int .i64 2), .lit (.int .i64 8)]], .lit (.int .i64 2), .lit (.slice none 0 0), .lit (.slice none 0 0)], .lit (.int .u64 4), .vec 1 [.vec 2 [.lit (.int .i64 0), .lit (.int .i64 2)], .vec 4 [.lit (.int .i64 100), .lit (.int .i64 20), .lit (.int .i64 0), .lit (.int .i64 70)]]], .lit (.int .i64 2), .lit (.int .u64 2)]
def Tryz.kv16_4 : AVal := .tup [.agg [.lit (.int .i64 10), .vec 3 [.lit (.int .i64 2), .lit (.slice none 0 0), .vec 1 [.vec 2 [.lit (.int .i64 7), .lit (.int .i64 3)]], .lit (.int .i64 2), .vec 1 [.lit (.int .i64 0)], .vec 2 [.vec 2 [.lit (.int .i64 8), .lit (.int .i64 2)], .vec 2 [.lit (.int .i64 2), .lit (.int .i64 8)]], .lit (.int .i64 2), .vec 1 [.lit (.int .i64 1)], .lit (.slice none 0 0)], .lit (.int .u64 4), .vec 1 [.vec 2 [.lit (.int .i64 0), .lit (.int .i64 2)], .vec 4 [.lit (.int .i64 100), .lit (.int .i64 20), .lit (.int .i64 0), .lit (.int .i64 70)]]], .lit (.int .i64 0)]
theorem Tryz.kc16_4 : chk Tryz.ep4 1000000 16 Tryz.ka16_4 Tryz.kv16_4 = true := by kernel_rfl
def Tryz.kn16 : KTab := [(Tryz.ka16_0, Tryz.kv16_0), (Tryz.ka16_1, Tryz.kv16_1), (Tryz.ka16_2, Tryz.kv16_2), (Tryz.ka16_3, Tryz.kv16_3), (Tryz.ka16_4, Tryz.kv16_4)]
theorem Tryz.kn16_ok : KOk Tryz.prog Tryz.Gk 16 Tryz.kn16 := .cons (chk_ok Tryz.ep4_ok Tryz.kc16_0) (.cons (chk_ok Tryz.ep4_ok Tryz.kc16_1) (.cons (chk_ok Tryz.ep4_ok Tryz.kc16_2) (.cons (chk_ok Tryz.ep4_ok Tryz.kc16_3) (.cons (chk_ok Tryz.ep4_ok Tryz.kc16_4) .nil))))
noncomputable def Tryz.ep5 : EP := { P := Tryz.prog, G := Tryz.Gk, gd := gdT, known := knownOf [(64, Tryz.kn64), (28, Tryz.kn28), (29, Tryz.kn29), (13, Tryz.kn13), (16, Tryz.kn16)], ext := extT }
theorem Tryz.ep5_ok : EOk Tryz.ep5 := .of_known (l := [(64, Tryz.kn64), (28, Tryz.kn28), (29, Tryz.kn29), (13, Tryz.kn13), (16, Tryz.kn16)]) rfl Tryz.Gk_ok Tryz.mixedK Tryz.gd_ok ⟨Tryz.kn64_ok, ⟨Tryz.kn28_ok, ⟨Tryz.kn29_ok, ⟨Tryz.kn13_ok, ⟨Tryz.kn16_ok, trivial⟩⟩⟩⟩⟩ (extT_ok rfl rfl rfl)
def Tryz.ka20_0 : List AVal := [.agg [.lit (.int .i64 2), .vec 3 [.lit (.int .i64 2), .lit (.slice none 0 0), .lit (.slice none 0 0), .lit (.int .i64 2), .lit (.slice none 0 0), .vec 1 [.vec 2 [.lit (.int .i64 1), .lit (.int .i64 1)]], .lit (.int .i64 2), .vec 1 [.lit (.int .i64 0)], .lit (.slice none 0 0)], .lit (.int .u64 5), .vec 2 [.vec 2 [.lit (.int .i64 0), .lit (.int .i64 1)], .vec 4 [.lit (.int .i64 4), .lit (.int .i64 0), .lit (.int .i64 0), .lit (.int .i64 4)], .vec 2 [.lit (.int .i64 1), .lit (.int .i64 2)], .vec 4 [.lit (.int .i64 4), .lit (.int .i64 0), .lit (.int .i64 0), .lit (.int .i64 4)]]], .lit (.int .i64 0), .lit (.int .u64 2)]
def Tryz.kv20_0 : AVal := .tup [.agg [.lit (.int .i64 4), .lit (.int .i64 1)], .lit (.int .i64 0)]
theorem Tryz.kc20_0 : chk Tryz.ep5 1000000 20 Tryz.ka20_0 Tryz.kv20_0 = true := by kernel_rfl
def Tryz.ka20_1 : List AVal := [.agg [.lit (.int .i64 2), .vec 3 [.lit (.int .i64 2), .lit (.slice none 0 0), .lit (.slice none 0 0), .lit (.int .i64 2), .lit (.slice none 0 0), .vec 1 [.vec 2 [.lit (.int .i64 1), .lit (.int .i64 1)]], .lit (.int .i64 2), .vec 1 [.lit (.int .i64 0)], .lit (.slice none 0 0)], .lit (.int .u64 5), .vec 2 [.vec 2 [.lit (.int .i64 0), .lit (.int .i64 1)], .vec 4 [.lit (.int .i64 4), .lit (.int .i64 0), .lit (.int .i64 0), .lit (.int .i64 4)], .vec 2 [.lit (.int .i64 1), .lit (.int .i64 2)], .vec 4 [.lit (.int .i64 4), .lit (.int .i64 0), .lit (.int .i64 0), .lit (.int .i64 4)]]], .lit (.int .i64 2), .lit (.int .u64 2)]
def Tryz.kv20_1 : AVal := .tup [.agg [.lit (.int .i64 2), .lit (.int .i64 1)], .lit (.int .i64 0)]
theorem Tryz.kc20_1 : chk Tryz.ep5 1000000 20 Tryz.ka20_1 Tryz.kv20_1 = true := by kernel_rfl
def Tryz.ka20_2 : List AVal := [.agg [.lit (.int .i64 1), .vec 2 [.lit (.int .i64 2), .lit (.slice none 0 0), .lit (.slice none 0 0), .lit (.int .i64 2), .lit (.slice none 0 0), .lit (.slice none 0 0)], .lit (.int .u64 3), .lit (.slice none 0 0)], .lit (.int .i64 9), .lit (.int .u64 512)]
def Tryz.kv20_2 : AVal := .tup [.agg [.lit (.int .i64 0), .lit (.int .i64 0)], .lit (.int .i64 210)]
theorem Tryz.kc20_2 : chk Tryz.ep5 1000000 20 Tryz.ka20_2 Tryz.kv20_2 = true := by kernel_rfl
def Tryz.ka20_3 : List AVal := [.agg [.lit (.int .i64 10), .vec 3 [.lit (.int .i64 2), .lit (.slice none 0 0), .vec 1 [.vec 2 [.lit (.int .i64 7), .lit (.int .i64 3)]], .lit (.int .i64 2), .vec 1 [.lit (.int .i64 0)], .vec 2 [.vec 2 [.lit (.int .i64 8), .lit (.int .i64 2)], .vec 2 [.lit (.int .i64 2), .lit (.int .i64 8)]], .lit (.int .i64 2), .lit (.slice none 0 0), .lit (.slice none 0 0)], .lit (.int .u64 4), .vec 1 [.vec 2 [.lit (.int .i64 0), .lit (.int .i64 2)], .vec 4 [.lit (.int .i64 100), .lit (.int .i64 20), .lit (.int .i64 0), .lit (.int .i64 70)]]], .lit (.int .i64 0), .lit (.int .u64 0)]
def Tryz.kv20_3 : AVal := .tup [.agg [.lit (.int .i64 0), .lit (.int .i64 0)], .lit (.int .i64 2)]
theorem Tryz.kc20_3 : chk Tryz.ep5 1000000 20 Tryz.ka20_3 Tryz.kv20_3 = true := by kernel_rfl
def Tryz.ka20_4 : List AVal := [.agg [.lit (.int .i64 10), .vec 3 [.lit (.int .i64 2), .lit (.slice none 0 0), .vec 1 [.vec 2 [.lit (.int .i64 7), .lit (.int .i64 3)]], .lit (.int .i64 2), .vec 1 [.lit (.int .i64 0)], .vec 2 [.vec 2 [.lit (.int .i64 8), .lit (.int .i64 2)], .vec 2 [.lit (.int .i64 2), .lit (.int .i64 8)]], .lit (.int .i64 2), .lit (.slice none 0 0), .lit (.slice none 0 0)], .lit (.int .u64 4), .vec 1 [.vec 2 [.lit (.int .i64 0), .lit (.int .i64 2)], .vec 4 [.lit (.int .i64 100), .lit (.int .i64 20), .lit (.int .i64 0), .lit (.int .i64 70)]]], .lit (.int .i64 2), .lit (.int .u64 4)]
def Tryz.kv20_4 : AVal := .tup [.agg [.lit (.int .i64 0), .lit (.int .i64 0)], .lit (.int .i64 2)]
theorem Tryz.kc20_4 : chk Tryz.ep5 1000000 20 Tryz.ka20_4 Tryz.kv20_4 = true := by kernel_rfl
def Tryz.ka20_5 : List AVal := [.agg [.lit (.int .i64 10), .vec 3 [.lit (.int .i64 2), .lit (.slice none 0 0), .vec 1 [.vec 2 [.lit (.int .i64 7), .lit (.int .i64 3)]], .lit (.int .i64 2), .vec 1 [.lit (.int .i64 0)], .vec 2 [.vec 2 [.lit (.int .i64 8), .lit (.int .i64 2)], .vec 2 [.lit (.int .i64 2), .lit (.int .i64 8)]], .lit (.int .i64 2), .lit (.slice none 0 0), .lit (.slice none 0 0)], .lit (.int .u64 4), .vec 1 [.vec 2 [.lit (.int .i64 0), .lit (.int .i64 2)], .vec 4 [.lit (.int .i64 100), .lit (.int .i64 20), .lit (.int .i64 0), .lit (.int .i64 70)]]], .lit (.int .i64 2), .lit (.int .u64 0)]
def Tryz.kv20_5 : AVal := .tup [.agg [.lit (.int .i64 0), .lit (.int .i64 1)], .lit (.int .i64 0)]
theorem Tryz.kc20_5 : chk Tryz.ep5 1000000 20 Tryz.ka20_5 Tryz.kv20_5 = true := by kernel_rfl
def Tryz.ka20_6 : List AVal := [.agg [.lit (.int .i64 10), .vec 3 [.lit (.int .i64 2), .lit (.slice none 0 0), .vec 1 [.vec 2 [.lit (.int .i64 7), .lit (.int .i64 3)]], .lit (.int .i64 2), .vec 1 [.lit (.int .i64 0)], .vec 2 [.vec 2 [.lit (.int .i64 8), .lit (.int .i64 2)], .vec 2 [.lit (.int .i64 2), .lit (.int .i64 8)]], .lit (.int .i64 2), .lit (.slice none 0 0), .lit (.slice none 0 0)], .lit (.int .u64 4), .vec 1 [.vec 2 [.lit (.int .i64 0), .lit (.int .i64 2)], .vec 4 [.lit (.int .i64 100), .lit (.int .i64 20), .lit (.int .i64 0), .lit (.int .i64 70)]]], .lit (.int .i64 2), .lit (.int .u64 2)]
def Tryz.kv20_6 : AVal := .tup [.agg [.lit (.int .i64 28), .lit (.int .i64 5)], .lit (.int .i64 0)]
theorem Tryz.kc20_6 : chk Tryz.ep5 1000000 20 Tryz.ka20_6 Tryz.kv20_6 = true := by kernel_rfl
def Tryz.ka20_7 : List AVal := [.agg [.lit (.int .i64 10), .vec 3 [.lit (.int .i64 2), .lit (.slice none 0 0), .vec 1 [.vec 2 [.lit (.int .i64 7), .lit (.int .i64 3)]], .lit (.int .i64 2), .vec 1 [.lit (.int .i64 0)], .vec 2 [.vec 2 [.lit (.int .i64 8), .lit (.int .i64 2)], .vec 2 [.lit (.int .i64 2), .lit (.int .i64 8)]], .lit (.int .i64 2), .lit (.slice none 0 0), .lit (.slice none 0 0)], .lit (.int .u64 4), .vec 1 [.vec 2 [.lit (.int .i64 0), .lit (.int .i64 2)], .vec 4 [.lit (.int .i64 100), .lit (.int .i64 20), .lit (.int .i64 0), .lit (.int .i64 70)]]], .lit (.int .i64 2), .lit (.int .u64 1)]
def Tryz.kv20_7 : AVal := .tup [.agg [.lit (.int .i64 21), .lit (.int .i64 1)], .lit (.int .i64 0)]
theorem Tryz.kc20_7 : chk Tryz.ep5 1000000 20 Tryz.ka20_7 Tryz.kv20_7 = true := by kernel_rfl
def Tryz.ka20_8 : List AVal := [.agg [.lit (.int .i64 10), .vec 3 [.lit (.int .i64 2), .lit (.slice none 0 0), .vec 1 [.vec 2 [.lit (.int .i64 7), .lit (.int .i64 3)]], .lit (.int .i64 2), .vec 1 [.lit (.int .i64 0)], .vec 2 [.vec 2 [.lit (.int .i64 8), .lit (.int .i64 2)], .vec 2 [.lit (.int .i64 2), .lit (.int .i64 8)]], .lit (.int .i64 2), .lit (.slice none 0 0), .lit (.slice none 0 0)], .lit (.int .u64 4), .vec 1 [.vec 2 [.lit (.int .i64 0), .lit (.int .i64 2)], .vec 4 [.lit (.int .i64 100), .lit (.int .i64 20), .lit (.int .i64 0), .lit (.int .i64 70)]]], .lit (.int .i64 2), .lit (.int .u64 3)]
def Tryz.kv20_8 : AVal := .tup [.agg [.lit (.int .i64 21), .lit (.int .i64 1)], .lit (.int .i64 0)]
theorem Tryz.kc20_8 : chk Tryz.ep5 1000000 20 Tryz.ka20_8 Tryz.kv20_8 = true := by kernel_rfl
def Tryz.ka20_9 : List AVal := [.agg [.lit (.int .i64 10), .vec 3 [.lit (.int .i64 2), .lit (.slice none 0 0), .vec 1 [.vec 2 [.lit (.int .i64 7), .lit (.int .i64 3)]], .lit (.int .i64 2), .vec 1 [.lit (.int .i64 0)], .vec 2 [.vec 2 [.lit (.int .i64 8), .lit (.int .i64 2)], .vec 2 [.lit (.int .i64 2), .lit (.int .i64 8)]], .lit (.int .i64 2), .vec 1 [.lit (.int .i64 1)], .lit (.slice none 0 0)], .lit (.int .u64 4), .vec 1 [.vec 2 [.lit (.int .i64 0), .lit (.int .i64 2)], .vec 4 [.lit (.int .i64 100), .lit (.int .i64 20), .lit (.int .i64 0), .lit (.int .i64 70)]]], .lit (.int .i64 2), .lit (.int .u64 2)]
def Tryz.kv20_9 : AVal := .tup [.agg [.lit (.int .i64 0), .lit (.int .i64 1)], .lit (.int .i64 0)]
theorem Tryz.kc20_9 : chk Tryz.ep5 1000000 20 Tryz.ka20_9 Tryz.kv20_9 = true := by kernel_rfl
def Tryz.ka20_10 : List AVal := [.agg [.lit (.int .i64 10), .vec 3 [.lit (.int .i64 2), .lit (.slice none 0 0), .vec 1 [.vec 2 [.lit (.int .i64 7), .lit (.int .i64 3)]], .lit (.int .i64 2), .vec 1 [.lit (.int .i64 0)], .vec 2 [.vec 2 [.lit (.int .i64 8), .lit (.int .i64 2)], .vec 2 [.lit (.int .i64 2), .lit (.int .i64 8)]], .lit (.int .i64 2), .vec 1 [.lit (.int .i64 1)], .lit (.slice none 0 0)], .lit (.int .u64 4), .vec 1 [.vec 2 [.lit (.int .i64 0), .lit (.int .i64 2)], .vec 4 [.lit (.int .i64 100), .lit (.int .i64 20), .lit (.int .i64 0), .lit (.int .i64 70)]]], .lit (.int .i64 2), .lit (.int .u64 1)]
def Tryz.kv20_10 : AVal := .tup [.agg [.lit (.int .i64 77), .lit (.int .i64 5)], .lit (.int .i64 0)]
theorem Tryz.kc20_10 : chk Tryz.ep5 1000000 20 Tryz.ka20_10 Tryz.kv20_10 = true := by kernel_rfl
def Tryz.kn20 : KTab := [(Tryz.ka20_0, Tryz.kv20_0), (Tryz.ka20_1, Tryz.kv20_1), (Tryz.ka20_2, Tryz.kv20_2), (Tryz.ka20_3, Tryz.kv20_3), (Tryz.ka20_4, Tryz.kv20_4), (Tryz.ka20_5, Tryz.kv20_5), (Tryz.ka20_6, Tryz.kv20_6), (Tryz.ka20_7, Tryz.kv20_7), (Tryz.ka20_8, Tryz.kv20_8), (Tryz.ka20_9, Tryz.kv20_9), (Tryz.ka20_10, Tryz.kv20_10)]
theorem Tryz.kn20_ok : KOk Tryz.prog Tryz.Gk 20 Tryz.kn20 := .cons (chk_ok Tryz.ep5_ok Tryz.kc20_0) (.cons (chk_ok Tryz.ep5_ok Tryz.kc20_1) (.cons (chk_ok Tryz.ep5_ok Tryz.kc20_2) (.cons (chk_ok Tryz.ep5_ok Tryz.kc20_3) (.cons (chk_ok Tryz.ep5_ok Tryz.kc20_4) (.cons (chk_ok Tryz.ep5_ok Tryz.kc20_5) (.cons (chk_ok Tryz.ep5_ok Tryz.kc20_6) (.cons (chk_ok Tryz.ep5_ok Tryz.kc20_7) (.cons (chk_ok Tryz.ep5_ok Tryz.kc20_8) (.cons (chk_ok Tryz.ep5_ok Tryz.kc20_9) (.cons (chk_ok Tryz.ep5_ok Tryz.kc20_10) .nil))))))))))
noncomputable def Tryz.ep6 : EP := { P := Tryz.prog, G := Tryz.Gk, gd := gdT, known := knownOf [(64, Tryz.kn64), (28, Tryz.kn28), (29, Tryz.kn29), (13, Tryz.kn13), (16, Tryz.kn16), (20, Tryz.kn20)], ext := extT }
theorem Tryz.ep6_ok : EOk Tryz.ep6 := .of_known (l := [(64, Tryz.kn64), (28, Tryz.kn28), (29, Tryz.kn29), (13, Tryz.kn13), (16, Tryz.kn16), (20, Tryz.kn20)]) rfl Tryz.Gk_ok Tryz.mixedK Tryz.gd_ok ⟨Tryz.kn64_ok, ⟨Tryz.kn28_ok, ⟨Tryz.kn29_ok, ⟨Tryz.kn13_ok, ⟨Tryz.kn16_ok, ⟨Tryz.kn20_ok, trivial⟩⟩⟩⟩⟩⟩ (extT_ok rfl rfl rfl)
def Tryz.ka23_0 : List AVal := [.agg [.lit (.int .i64 2), .vec 3 [.lit (.int .i64 2), .lit (.slice none 0 0), .lit (.slice none 0 0), .lit (.int .i64 2), .lit (.slice none 0 0), .vec 1 [.vec 2 [.lit (.int .i64 1), .lit (.int .i64 1)]], .lit (.int .i64 2), .vec 1 [.lit (.int .i64 0)], .lit (.slice none 0 0)], .lit (.int .u64 5), .vec 2 [.vec 2 [.lit (.int .i64 0), .lit (.int .i64 1)], .vec 4 [.lit (.int .i64 4), .lit (.int .i64 0), .lit (.int .i64 0), .lit (.int .i64 4)], .vec 2 [.lit (.int .i64 1), .lit (.int .i64 2)], .vec 4 [.lit (.int .i64 4), .lit (.int .i64 0), .lit (.int .i64 0), .lit (.int .i64 4)]]], .lit (.int .i64 2), .agg [.lit (.int .i64 2), .lit (.int .i64 1)]]
def Tryz.kv23_0 : AVal := .tup [.lit (.int .u64 2), .lit (.int .i64 0)]
theorem Tryz.kc23_0 : chk Tryz.ep6 1000000 23 Tryz.ka23_0 Tryz.kv23_0 = true := by kernel_rfl
def Tryz.ka23_1 : List AVal := [.agg [.lit (.int .i64 10), .vec 3 [.lit (.int .i64 2), .lit (.slice none 0 0), .vec 1 [.vec 2 [.lit (.int .i64 7), .lit (.int .i64 3)]], .lit (.int .i64 2), .vec 1 [.lit (.int .i64 0)], .vec 2 [.vec 2 [.lit (.int .i64 8), .lit (.int .i64 2)], .vec 2 [.lit (.int .i64 2), .lit (.int .i64 8)]], .lit (.int .i64 2), .lit (.slice none 0 0), .lit (.slice none 0 0)], .lit (.int .u64 4), .vec 1 [.vec 2 [.lit (.int .i64 0), .lit (.int .i64 2)], .vec 4 [.lit (.int .i64 100), .lit (.int .i64 20), .lit (.int .i64 0), .lit (.int .i64 70)]]], .lit (.int .i64 9), .agg [.lit (.int .i64 0), .lit (.int .i64 0)]]
def Tryz.kv23_1 : AVal := .tup [.lit (.int .u64 0), .lit (.int .i64 2)]
theorem Tryz.kc23_1 : chk Tryz.ep6 1000000 23 Tryz.ka23_1 Tryz.kv23_1 = true := by kernel_rfl
def Tryz.ka23_2 : List AVal := [.agg [.lit (.int .i64 10), .vec 3 [.lit (.int .i64 2), .lit (.slice none 0 0), .vec 1 [.vec 2 [.lit (.int .i64 7), .lit (.int .i64 3)]], .lit (.int .i64 2), .vec 1 [.lit (.int .i64 0)], .vec 2 [.vec 2 [.lit (.int .i64 8), .lit (.int .i64 2)], .vec 2 [.lit (.int .i64 2), .lit (.int .i64 8)]], .lit (.int .i64 2), .lit (.slice none 0 0), .lit (.slice none 0 0)], .lit (.int .u64 4), .vec 1 [.vec 2 [.lit (.int .i64 0), .lit (.int .i64 2)], .vec 4 [.lit (.int .i64 100), .lit (.int .i64 20), .lit (.int .i64 0), .lit (.int .i64 70)]]], .lit (.int .i64 2), .agg [.lit (.int .i64 1), .lit (.int .i64 1)]]
def Tryz.kv23_2 : AVal := .tup [.lit (.int .u64 1), .lit (.int .i64 0)]
theorem Tryz.kc23_2 : chk Tryz.ep6 1000000 23 Tryz.ka23_2 Tryz.kv23_2 = true := by kernel_rfl
def Tryz.ka23_3 : List AVal := [.agg [.lit (.int .i64 10), .vec 3 [.lit (.int .i64 2), .lit (.slice none 0 0), .vec 1 [.vec 2 [.lit (.int .i64 7), .lit (.int .i64 3)]], .lit (.int .i64 2), .vec 1 [.lit (.int .i64 0)], .vec 2 [.vec 2 [.lit (.int .i64 8), .lit (.int .i64 2)], .vec 2 [.lit (.int .i64 2), .lit (.int .i64 8)]], .lit (.int .i64 2), .lit (.slice none 0 0), .lit (.slice none 0 0)], .lit (.int .u64 4), .vec 1 [.vec 2 [.lit (.int .i64 0), .lit (.int .i64 2)], .vec 4 [.lit (.int .i64 100), .lit (.int .i64 20), .lit (.int .i64 0), .lit (.int .i64 70)]]], .lit (.int .i64 2), .agg [.lit (.int .i64 10), .lit (.int .i64 1)]]
def Tryz.kv23_3 : AVal := .tup [.lit (.int .u64 1), .lit (.int .i64 0)]
theorem Tryz.kc23_3 : chk Tryz.ep6 1000000 23 Tryz.ka23_3 Tryz.kv23_3 = true := by kernel_rfl
def Tryz.ka23_4 : List AVal := [.agg [.lit (.int .i64 10), .vec 3 [.lit (.int .i64 2), .lit (.slice none 0 0), .vec 1 [.vec 2 [.lit (.int .i64 7), .lit (.int .i64 3)]], .lit (.int .i64 2), .vec 1 [.lit (.int .i64 0)], .vec 2 [.vec 2 [.lit (.int .i64 8), .lit (.int .i64 2)], .vec 2 [.lit (.int .i64 2), .lit (.int .i64 8)]], .lit (.int .i64 2), .lit (.slice none 0 0), .lit (.slice none 0 0)], .lit (.int .u64 4), .vec 1 [.vec 2 [.lit (.int .i64 0), .lit (.int .i64 2)], .vec 4 [.lit (.int .i64 100), .lit (.int .i64 20), .lit (.int .i64 0), .lit (.int .i64 70)]]], .lit (.int .i64 2), .agg [.lit (.int .i64 22), .lit (.int .i64 1)]]
def Tryz.kv23_4 : AVal := .tup [.lit (.int .u64 0), .lit (.int .i64 4)]
theorem Tryz.kc23_4 : chk Tryz.ep6 1000000 23 Tryz.ka23_4 Tryz.kv23_4 = true := by kernel_rfl
def Tryz.ka23_5 : List AVal := [.agg [.lit (.int .i64 10), .vec 3 [.lit (.int .i64 2), .lit (.slice none 0 0), .vec 1 [.vec 2 [.lit (.int .i64 7), .lit (.int .i64 3)]], .lit (.int .i64 2), .vec 1 [.lit (.int .i64 0)], .vec 2 [.vec 2 [.lit (.int .i64 8), .lit (.int .i64 2)], .vec 2 [.lit (.int .i64 2), .lit (.int .i64 8)]], .lit (.int .i64 2), .lit (.slice none 0 0), .lit (.slice none 0 0)], .lit (.int .u64 4), .vec 1 [.vec 2 [.lit (.int .i64 0), .lit (.int .i64 2)], .vec 4 [.lit (.int .i64 100), .lit (.int .i64 20), .lit (.int .i64 0), .lit (.int .i64 70)]]], .lit (.int .i64 2), .agg [.lit (.int .i64 (-1)), .lit (.int .i64 1)]]
def Tryz.kv23_5 : AVal := .tup [.lit (.int .u64 0), .lit (.int .i64 2)]
theorem Tryz.kc23_5 : chk Tryz.ep6 1000000 23 Tryz.ka23_5 Tryz.kv23_5 = true := by kernel_rfl
def Tryz.ka23_6 : List AVal := [.agg [.lit (.int .i64 10), .vec 3 [.lit (.int .i64 2), .lit (.slice none 0 0), .vec 1 [.vec 2 [.lit (.int .i64 7), .lit (.int .i64 3)]], .lit (.int .i64 2), .vec 1 [.lit (.int .i64 0)], .vec 2 [.vec 2 [.lit (.int .i64 8), .lit (.int .i64 2)], .vec 2 [.lit (.int .i64 2), .lit (.int .i64 8)]], .lit (.int .i64 2), .lit (.slice none 0 0), .lit (.slice none 0 0)], .lit (.int .u64 4), .vec 1 [.vec 2 [.lit (.int .i64 0), .lit (.int .i64 2)], .vec 4 [.lit (.int .i64 100), .lit (.int .i64 20), .lit (.int .i64 0), .lit (.int .i64 70)]]], .lit (.int .i64 2), .agg [.lit (.int .i64 2), .lit (.int .i64 4)]]
def Tryz.kv23_6 : AVal := .tup [.lit (.int .u64 0), .lit (.int .i64 5)]
theorem Tryz.kc23_6 : chk Tryz.ep6 1000000 23 Tryz.ka23_6 Tryz.kv23_6 = true := by kernel_rfl
def Tryz.ka23_7 : List AVal := [.agg [.lit (.int .i64 10), .vec 3 [.lit (.int .i64 2), .lit (.slice none 0 0), .vec 1 [.vec 2 [.lit (.int .i64 7), .lit (.int .i64 3)]], .lit (.int .i64 2), .vec 1 [.lit (.int .i64 0)], .vec 2 [.vec 2 [.lit (.int .i64 8), .lit (.int .i64 2)], .vec 2 [.lit (.int .i64 2), .lit (.int .i64 8)]], .lit (.int .i64 2), .lit (.slice none 0 0), .lit (.slice none 0 0)], .lit (.int .u64 4), .vec 1 [.vec 2 [.lit (.int .i64 0), .lit (.int .i64 2)], .vec 4 [.lit (.int .i64 100), .lit (.int .i64 20), .lit (.int .i64 0), .lit (.int .i64 70)]]], .lit (.int .i64 2), .agg [.lit (.int .i64 0), .lit (.int .i64 1)]]
def Tryz.kv23_7 : AVal := .tup [.lit (.int .u64 0), .lit (.int .i64 0)]
theorem Tryz.kc23_7 : chk Tryz.ep6 1000000 23 Tryz.ka23_7 Tryz.kv23_7 = true := by kernel_rfl
def Tryz.ka23_8 : List AVal := [.agg [.lit (.int .i64 10), .vec 3 [.lit (.int .i64 2), .lit (.slice none 0 0), .vec 1 [.vec 2 [.lit (.int .i64 7), .lit (.int .i64 3)]], .lit (.int .i64 2), .vec 1 [.lit (.int .i64 0)], .vec 2 [.vec 2 [.lit (.int .i64 8), .lit (.int .i64 2)], .vec 2 [.lit (.int .i64 2), .lit (.int .i64 8)]], .lit (.int .i64 2), .lit (.slice none 0 0), .lit (.slice none 0 0)], .lit (.int .u64 4), .vec 1 [.vec 2 [.lit (.int .i64 0), .lit (.int .i64 2)], .vec 4 [.lit (.int .i64 100), .lit (.int .i64 20), .lit (.int .i64 0), .lit (.int .i64 70)]]], .lit (.int .i64 2), .agg [.lit (.int .i64 21), .lit (.int .i64 1)]]
def Tryz.kv23_8 : AVal := .tup [.lit (.int .u64 1), .lit (.int .i64 0)]
theorem Tryz.kc23_8 : chk Tryz.ep6 1000000 23 Tryz.ka23_8 Tryz.kv23_8 = true := by kernel_rfl
def Tryz.ka23_9 : List AVal := [.agg [.lit (.int .i64 10), .vec 3 [.lit (.int .i64 2), .lit (.slice none 0 0), .vec 1 [.vec 2 [.lit (.int .i64 7), .lit (.int .i64 3)]], .lit (.int .i64 2), .vec 1 [.lit (.int .i64 0)], .vec 2 [.vec 2 [.lit (.int .i64 8), .lit (.int .i64 2)], .vec 2 [.lit (.int .i64 2), .lit (.int .i64 8)]], .lit (.int .i64 2), .lit (.slice none 0 0), .lit (.slice none 0 0)], .lit (.int .u64 4), .vec 1 [.vec 2 [.lit (.int .i64 0), .lit (.int .i64 2)], .vec 4 [.lit (.int .i64 100), .lit (.int .i64 20), .lit (.int .i64 0), .lit (.int .i64 70)]]], .lit (.int .i64 2), .agg [.lit (.int .i64 28), .lit (.int .i64 5)]]
def Tryz.kv23_9 : AVal := .tup [.lit (.int .u64 1), .lit (.int .i64 0)]
theorem Tryz.kc23_9 : chk Tryz.ep6 1000000 23 Tryz.ka23_9 Tryz.kv23_9 = true := by kernel_rfl
def Tryz.ka23_10 : List AVal := [.agg [.lit (.int .i64 10), .vec 3 [.lit (.int .i64 2), .lit (.slice none 0 0), .vec 1 [.vec 2 [.lit (.int .i64 7), .lit (.int .i64 3)]], .lit (.int .i64 2), .vec 1 [.lit (.int .i64 0)], .vec 2 [.vec 2 [.lit (.int .i64 8), .lit (.int .i64 2)], .vec 2 [.lit (.int .i64 2), .lit (.int .i64 8)]], .lit (.int .i64 2), .lit (.slice none 0 0), .lit (.slice none 0 0)], .lit (.int .u64 4), .vec 1 [.vec 2 [.lit (.int .i64 0), .lit (.int .i64 2)], .vec 4 [.lit (.int .i64 100), .lit (.int .i64 20), .lit (.int .i64 0), .lit (.int .i64 70)]]], .lit (.int .i64 2), .agg [.lit (.int .i64 4611686018427387903), .lit (.int .i64 1)]]
def Tryz.kv23_10 : AVal := .tup [.lit (.int .u64 0), .lit (.int .i64 4)]
theorem Tryz.kc23_10 : chk Tryz.ep6 1000000 23 Tryz.ka23_10 Tryz.kv23_10 = true := by kernel_rfl
def Tryz.kn23 : KTab := [(Tryz.ka23_0, Tryz.kv23_0), (Tryz.ka23_1, Tryz.kv23_1), (Tryz.ka23_2, Tryz.kv23_2), (Tryz.ka23_3, Tryz.kv23_3), (Tryz.ka23_4, Tryz.kv23_4), (Tryz.ka23_5, Tryz.kv23_5), (Tryz.ka23_6, Tryz.kv23_6), (Tryz.ka23_7, Tryz.kv23_7), (Tryz.ka23_8, Tryz.kv23_8), (Tryz.ka23_9, Tryz.kv23_9), (Tryz.ka23_10, Tryz.kv23_10)]
theorem Tryz.kn23_ok : KOk Tryz.prog Tryz.Gk 23 Tryz.kn23 := .cons (chk_ok Tryz.ep6_ok Tryz.kc23_0) (.cons (chk_ok Tryz.ep6_ok Tryz.kc23_1) (.cons (chk_ok Tryz.ep6_ok Tryz.kc23_2) (.cons (chk_ok Tryz.ep6_ok Tryz.kc23_3) (.cons (chk_ok Tryz.ep6_ok Tryz.kc23_4) (.cons (chk_ok Tryz.ep6_ok Tryz.kc23_5) (.cons (chk_ok Tryz.ep6_ok Tryz.kc23_6) (.cons (chk_ok Tryz.ep6_ok Tryz.kc23_7) (.cons (chk_ok Tryz.ep6_ok Tryz.kc23_8) (.cons (chk_ok Tryz.ep6_ok Tryz.kc23_9) (.cons (chk_ok Tryz.ep6_ok Tryz.kc23_10) .nil))))))))))
noncomputable def Tryz.ep7 : EP := { P := Tryz.prog, G := Tryz.Gk, gd := gdT, known := knownOf [(64, Tryz.kn64), (28, Tryz.kn28), (29, Tryz.kn29), (13, Tryz.kn13), (16, Tryz.kn16), (20, Tryz.kn20), (23, Tryz.kn23)], ext := extT }
theorem Tryz.ep7_ok : EOk Tryz.ep7 := .of_known (l := [(64, Tryz.kn64), (28, Tryz.kn28), (29, Tryz.kn29), (13, Tryz.kn13), (16, Tryz.kn16), (20, Tryz.kn20), (23, Tryz.kn23)]) rfl Tryz.Gk_ok Tryz.mixedK Tryz.gd_ok ⟨Tryz.kn64_ok, ⟨Tryz.kn28_ok, ⟨Tryz.kn29_ok, ⟨Tryz.kn13_ok, ⟨Tryz.kn16_ok, ⟨Tryz.kn20_ok, ⟨Tryz.kn23_ok, trivial⟩⟩⟩⟩⟩⟩⟩ (extT_ok rfl rfl rfl)
def Tryz.ka19_0 : List AVal := []
def Tryz.kv19_0 : AVal := .lit (.bool true)
theorem Tryz.kc19_0 : chk Tryz.ep7 1000000 19 Tryz.ka19_0 Tryz.kv19_0 = true := by kernel_rfl
def Tryz.kn19 : KTab := [(Tryz.ka19_0, Tryz.kv19_0)]
theorem Tryz.kn19_ok : KOk Tryz.prog Tryz.Gk 19 Tryz.kn19 := .cons (chk_ok Tryz.ep7_ok Tryz.kc19_0) .nil
noncomputable def Tryz.epMain : EP := { P := Tryz.prog, G := Tryz.Gk, gd := gdT, known := knownOf [(64, Tryz.kn64), (28, Tryz.kn28), (29, Tryz.kn29), (13, Tryz.kn13), (16, Tryz.kn16), (20, Tryz.kn20), (23, Tryz.kn23), (19, Tryz.kn19)], ext := extT }
theorem Tryz.epMain_ok : EOk Tryz.epMain := .of_known (l := [(64, Tryz.kn64), (28, Tryz.kn28), (29, Tryz.kn29), (13, Tryz.kn13), (16, Tryz.kn16), (20, Tryz.kn20), (23, Tryz.kn23), (19, Tryz.kn19)]) rfl Tryz.Gk_ok Tryz.mixedK Tryz.gd_ok ⟨Tryz.kn64_ok, ⟨Tryz.kn28_ok, ⟨Tryz.kn29_ok, ⟨Tryz.kn13_ok, ⟨Tryz.kn16_ok, ⟨Tryz.kn20_ok, ⟨Tryz.kn23_ok, ⟨Tryz.kn19_ok, trivial⟩⟩⟩⟩⟩⟩⟩⟩ (extT_ok rfl rfl rfl)
end Go.Proofs
