/-
  Closed facts of this seat's types. Laid by a program of ours.
-/
import Derived.Test.YtemcnpldpoglmaaDoorProg
import Derived.Test.YtemcnpldpoglmaaDoorLibE
import Derived.Test.YtemcnpldpoglmaaDoorLibD
import Derived.Test.YtemcnpldpoglmaaDoorLibC
set_option linter.all false
namespace Go.Proofs
open Go.Hx
theorem Tryd.mixed : Tryd.prog.follows .mixedOrders = true := by kernel_rfl
theorem Tryd.cells2 : Tryd.prog.cellsOf 2 = 1 := by kernel_rfl
theorem Tryd.bytes2 : Tryd.prog.bytesOf 2 = 8 := by kernel_rfl
theorem Tryd.zero2 : zeroA Tryd.prog 2 = some [.lit (.int .i64 0)] := by kernel_rfl
theorem Tryd.cells3 : Tryd.prog.cellsOf 3 = 1 := by kernel_rfl
theorem Tryd.bytes3 : Tryd.prog.bytesOf 3 = 8 := by kernel_rfl
theorem Tryd.zero3 : zeroA Tryd.prog 3 = some [.lit (.int .i64 0)] := by kernel_rfl
theorem Tryd.cells4 : Tryd.prog.cellsOf 4 = 1 := by kernel_rfl
theorem Tryd.bytes4 : Tryd.prog.bytesOf 4 = 1 := by kernel_rfl
theorem Tryd.zero4 : zeroA Tryd.prog 4 = some [.lit (.bool false)] := by kernel_rfl
theorem Tryd.cells5 : Tryd.prog.cellsOf 5 = 1 := by kernel_rfl
theorem Tryd.bytes5 : Tryd.prog.bytesOf 5 = 1 := by kernel_rfl
theorem Tryd.zero5 : zeroA Tryd.prog 5 = some [.lit (.int .u8 0)] := by kernel_rfl
theorem Tryd.cells9 : Tryd.prog.cellsOf 9 = 1 := by kernel_rfl
theorem Tryd.bytes9 : Tryd.prog.bytesOf 9 = 16 := by kernel_rfl
theorem Tryd.zero9 : zeroA Tryd.prog 9 = some [.lit (.string ByteArray.empty)] := by kernel_rfl
theorem Tryd.cells20 : Tryd.prog.cellsOf 20 = 1 := by kernel_rfl
theorem Tryd.bytes20 : Tryd.prog.bytesOf 20 = 16 := by kernel_rfl
theorem Tryd.zero20 : zeroA Tryd.prog 20 = some [.lit .nilIface] := by kernel_rfl
theorem Tryd.cells22 : Tryd.prog.cellsOf 22 = 2 := by kernel_rfl
theorem Tryd.bytes22 : Tryd.prog.bytesOf 22 = 16 := by kernel_rfl
theorem Tryd.zero22 : zeroA Tryd.prog 22 = some [.lit (.int .i64 0), .lit (.int .i64 0)] := by kernel_rfl
theorem Tryd.places22 : placesA Tryd.prog 22 = some [(0, 1), (1, 1)] := by kernel_rfl
theorem Tryd.field22_0 : fieldA Tryd.prog 22 0 = some (0, 3) := by kernel_rfl
theorem Tryd.field22_1 : fieldA Tryd.prog 22 1 = some (1, 3) := by kernel_rfl
theorem Tryd.cells23 : Tryd.prog.cellsOf 23 = 2 := by kernel_rfl
theorem Tryd.bytes23 : Tryd.prog.bytesOf 23 = 16 := by kernel_rfl
theorem Tryd.zero23 : zeroA Tryd.prog 23 = some [.lit (.int .i64 0), .lit (.int .i64 0)] := by kernel_rfl
theorem Tryd.places23 : placesA Tryd.prog 23 = some [(0, 1), (1, 1)] := by kernel_rfl
theorem Tryd.field23_0 : fieldA Tryd.prog 23 0 = some (0, 3) := by kernel_rfl
theorem Tryd.field23_1 : fieldA Tryd.prog 23 1 = some (1, 3) := by kernel_rfl
theorem Tryd.cells25 : Tryd.prog.cellsOf 25 = 1 := by kernel_rfl
theorem Tryd.bytes25 : Tryd.prog.bytesOf 25 = 8 := by kernel_rfl
theorem Tryd.zero25 : zeroA Tryd.prog 25 = some [.lit (.int .i64 0)] := by kernel_rfl
theorem Tryd.cells35 : Tryd.prog.cellsOf 35 = 4 := by kernel_rfl
theorem Tryd.bytes35 : Tryd.prog.bytesOf 35 = 32 := by kernel_rfl
theorem Tryd.zero35 : zeroA Tryd.prog 35 = some [.lit (.int .i64 0), .lit (.int .i64 0), .lit (.int .i64 0), .lit (.int .i64 0)] := by kernel_rfl
theorem Tryd.cells36 : Tryd.prog.cellsOf 36 = 4 := by kernel_rfl
theorem Tryd.bytes36 : Tryd.prog.bytesOf 36 = 32 := by kernel_rfl
theorem Tryd.zero36 : zeroA Tryd.prog 36 = some [.lit (.int .i64 0), .lit (.int .i64 0), .lit (.int .i64 0), .lit (.int .i64 0)] := by kernel_rfl
theorem Tryd.cells37 : Tryd.prog.cellsOf 37 = 16 := by kernel_rfl
theorem Tryd.bytes37 : Tryd.prog.bytesOf 37 = 128 := by kernel_rfl
theorem Tryd.zero37 : zeroA Tryd.prog 37 = some [.lit (.int .i64 0), .lit (.int .i64 0), .lit (.int .i64 0), .lit (.int .i64 0), .lit (.int .i64 0), .lit (.int .i64 0), .lit (.int .i64 0), .lit (.int .i64 0), .lit (.int .i64 0), .lit (.int .i64 0), .lit (.int .i64 0), .lit (.int .i64 0), .lit (.int .i64 0), .lit (.int .i64 0), .lit (.int .i64 0), .lit (.int .i64 0)] := by kernel_rfl
theorem Tryd.cells47 : Tryd.prog.cellsOf 47 = 1 := by kernel_rfl
theorem Tryd.bytes47 : Tryd.prog.bytesOf 47 = 8 := by kernel_rfl
theorem Tryd.zero47 : zeroA Tryd.prog 47 = some [.lit .nilFunc] := by kernel_rfl
theorem Tryd.cells52 : Tryd.prog.cellsOf 52 = 5 := by kernel_rfl
theorem Tryd.bytes52 : Tryd.prog.bytesOf 52 = 80 := by kernel_rfl
theorem Tryd.zero52 : zeroA Tryd.prog 52 = some [.lit (.string ByteArray.empty), .lit (.string ByteArray.empty), .lit (.string ByteArray.empty), .lit (.string ByteArray.empty), .lit (.string ByteArray.empty)] := by kernel_rfl
theorem Tryd.cells56 : Tryd.prog.cellsOf 56 = 1 := by kernel_rfl
theorem Tryd.bytes56 : Tryd.prog.bytesOf 56 = 2 := by kernel_rfl
theorem Tryd.zero56 : zeroA Tryd.prog 56 = some [.lit (.int .i16 0)] := by kernel_rfl
theorem Tryd.cells57 : Tryd.prog.cellsOf 57 = 6 := by kernel_rfl
theorem Tryd.bytes57 : Tryd.prog.bytesOf 57 = 12 := by kernel_rfl
theorem Tryd.zero57 : zeroA Tryd.prog 57 = some [.lit (.int .i16 0), .lit (.int .i16 0), .lit (.int .i16 0), .lit (.int .i16 0), .lit (.int .i16 0), .lit (.int .i16 0)] := by kernel_rfl
theorem Tryd.cells68 : Tryd.prog.cellsOf 68 = 12 := by kernel_rfl
theorem Tryd.bytes68 : Tryd.prog.bytesOf 68 = 192 := by kernel_rfl
theorem Tryd.zero68 : zeroA Tryd.prog 68 = some [.lit (.string ByteArray.empty), .lit (.string ByteArray.empty), .lit (.string ByteArray.empty), .lit (.string ByteArray.empty), .lit (.string ByteArray.empty), .lit (.string ByteArray.empty), .lit (.string ByteArray.empty), .lit (.string ByteArray.empty), .lit (.string ByteArray.empty), .lit (.string ByteArray.empty), .lit (.string ByteArray.empty), .lit (.string ByteArray.empty)] := by kernel_rfl
theorem Tryd.cells69 : Tryd.prog.cellsOf 69 = 1 := by kernel_rfl
theorem Tryd.bytes69 : Tryd.prog.bytesOf 69 = 8 := by kernel_rfl
theorem Tryd.zero69 : zeroA Tryd.prog 69 = some [.lit (.int .u64 0)] := by kernel_rfl
theorem Tryd.cells73 : Tryd.prog.cellsOf 73 = 1 := by kernel_rfl
theorem Tryd.bytes73 : Tryd.prog.bytesOf 73 = 24 := by kernel_rfl
theorem Tryd.zero73 : zeroA Tryd.prog 73 = some [.lit (.slice none 0 0)] := by kernel_rfl
theorem Tryd.cells78 : Tryd.prog.cellsOf 78 = 2 := by kernel_rfl
theorem Tryd.bytes78 : Tryd.prog.bytesOf 78 = 16 := by kernel_rfl
theorem Tryd.zero78 : zeroA Tryd.prog 78 = some [.lit (.int .u64 0), .lit (.int .u64 0)] := by kernel_rfl
theorem Tryd.cells79 : Tryd.prog.cellsOf 79 = 2 := by kernel_rfl
theorem Tryd.bytes79 : Tryd.prog.bytesOf 79 = 16 := by kernel_rfl
theorem Tryd.zero79 : zeroA Tryd.prog 79 = some [.lit (.int .u64 0), .lit (.int .u64 0)] := by kernel_rfl
theorem Tryd.cells83 : Tryd.prog.cellsOf 83 = 1 := by kernel_rfl
theorem Tryd.bytes83 : Tryd.prog.bytesOf 83 = 8 := by kernel_rfl
theorem Tryd.zero83 : zeroA Tryd.prog 83 = some [.lit .nilFunc] := by kernel_rfl
theorem Tryd.cells92 : Tryd.prog.cellsOf 92 = 2 := by kernel_rfl
theorem Tryd.bytes92 : Tryd.prog.bytesOf 92 = 16 := by kernel_rfl
theorem Tryd.zero92 : zeroA Tryd.prog 92 = some [.lit (.int .i64 0), .lit (.int .i64 0)] := by kernel_rfl
theorem Tryd.cells93 : Tryd.prog.cellsOf 93 = 2 := by kernel_rfl
theorem Tryd.bytes93 : Tryd.prog.bytesOf 93 = 32 := by kernel_rfl
theorem Tryd.zero93 : zeroA Tryd.prog 93 = some [.lit (.string ByteArray.empty), .lit (.string ByteArray.empty)] := by kernel_rfl
theorem Tryd.cells98 : Tryd.prog.cellsOf 98 = 0 := by kernel_rfl
theorem Tryd.bytes98 : Tryd.prog.bytesOf 98 = 0 := by kernel_rfl
theorem Tryd.zero98 : zeroA Tryd.prog 98 = some [] := by kernel_rfl
theorem Tryd.cells99 : Tryd.prog.cellsOf 99 = 0 := by kernel_rfl
theorem Tryd.bytes99 : Tryd.prog.bytesOf 99 = 0 := by kernel_rfl
theorem Tryd.zero99 : zeroA Tryd.prog 99 = some [] := by kernel_rfl
theorem Tryd.cells110 : Tryd.prog.cellsOf 110 = 1 := by kernel_rfl
theorem Tryd.bytes110 : Tryd.prog.bytesOf 110 = 8 := by kernel_rfl
theorem Tryd.zero110 : zeroA Tryd.prog 110 = some [.lit (.int .u64 0)] := by kernel_rfl
theorem Tryd.cells114 : Tryd.prog.cellsOf 114 = 1 := by kernel_rfl
theorem Tryd.bytes114 : Tryd.prog.bytesOf 114 = 16 := by kernel_rfl
theorem Tryd.zero114 : zeroA Tryd.prog 114 = some [.lit .nilIface] := by kernel_rfl
theorem Tryd.cells115 : Tryd.prog.cellsOf 115 = 1 := by kernel_rfl
theorem Tryd.bytes115 : Tryd.prog.bytesOf 115 = 16 := by kernel_rfl
theorem Tryd.zero115 : zeroA Tryd.prog 115 = some [.lit .nilIface] := by kernel_rfl
theorem Tryd.cells117 : Tryd.prog.cellsOf 117 = 24 := by kernel_rfl
theorem Tryd.bytes117 : Tryd.prog.bytesOf 117 = 24 := by kernel_rfl
theorem Tryd.zero117 : zeroA Tryd.prog 117 = some [.lit (.int .u8 0), .lit (.int .u8 0), .lit (.int .u8 0), .lit (.int .u8 0), .lit (.int .u8 0), .lit (.int .u8 0), .lit (.int .u8 0), .lit (.int .u8 0), .lit (.int .u8 0), .lit (.int .u8 0), .lit (.int .u8 0), .lit (.int .u8 0), .lit (.int .u8 0), .lit (.int .u8 0), .lit (.int .u8 0), .lit (.int .u8 0), .lit (.int .u8 0), .lit (.int .u8 0), .lit (.int .u8 0), .lit (.int .u8 0), .lit (.int .u8 0), .lit (.int .u8 0), .lit (.int .u8 0), .lit (.int .u8 0)] := by kernel_rfl
theorem Tryd.cells119 : Tryd.prog.cellsOf 119 = 1 := by kernel_rfl
theorem Tryd.bytes119 : Tryd.prog.bytesOf 119 = 24 := by kernel_rfl
theorem Tryd.zero119 : zeroA Tryd.prog 119 = some [.lit (.slice none 0 0)] := by kernel_rfl
theorem Tryd.cells124 : Tryd.prog.cellsOf 124 = 20 := by kernel_rfl
theorem Tryd.bytes124 : Tryd.prog.bytesOf 124 = 160 := by kernel_rfl
theorem Tryd.zero124 : zeroA Tryd.prog 124 = some [.lit (.int .u64 0), .lit (.int .u64 0), .lit (.int .u64 0), .lit (.int .u64 0), .lit (.int .u64 0), .lit (.int .u64 0), .lit (.int .u64 0), .lit (.int .u64 0), .lit (.int .u64 0), .lit (.int .u64 0), .lit (.int .u64 0), .lit (.int .u64 0), .lit (.int .u64 0), .lit (.int .u64 0), .lit (.int .u64 0), .lit (.int .u64 0), .lit (.int .u64 0), .lit (.int .u64 0), .lit (.int .u64 0), .lit (.int .u64 0)] := by kernel_rfl
theorem Tryd.cells125 : Tryd.prog.cellsOf 125 = 1 := by kernel_rfl
theorem Tryd.bytes125 : Tryd.prog.bytesOf 125 = 4 := by kernel_rfl
theorem Tryd.zero125 : zeroA Tryd.prog 125 = some [.lit (.int .u32 0)] := by kernel_rfl
theorem Tryd.cells126 : Tryd.prog.cellsOf 126 = 65 := by kernel_rfl
theorem Tryd.bytes126 : Tryd.prog.bytesOf 126 = 65 := by kernel_rfl
theorem Tryd.cells132 : Tryd.prog.cellsOf 132 = 32 := by kernel_rfl
theorem Tryd.bytes132 : Tryd.prog.bytesOf 132 = 32 := by kernel_rfl
theorem Tryd.zero132 : zeroA Tryd.prog 132 = some [.lit (.int .u8 0), .lit (.int .u8 0), .lit (.int .u8 0), .lit (.int .u8 0), .lit (.int .u8 0), .lit (.int .u8 0), .lit (.int .u8 0), .lit (.int .u8 0), .lit (.int .u8 0), .lit (.int .u8 0), .lit (.int .u8 0), .lit (.int .u8 0), .lit (.int .u8 0), .lit (.int .u8 0), .lit (.int .u8 0), .lit (.int .u8 0), .lit (.int .u8 0), .lit (.int .u8 0), .lit (.int .u8 0), .lit (.int .u8 0), .lit (.int .u8 0), .lit (.int .u8 0), .lit (.int .u8 0), .lit (.int .u8 0), .lit (.int .u8 0), .lit (.int .u8 0), .lit (.int .u8 0), .lit (.int .u8 0), .lit (.int .u8 0), .lit (.int .u8 0), .lit (.int .u8 0), .lit (.int .u8 0)] := by kernel_rfl
theorem Tryd.cells133 : Tryd.prog.cellsOf 133 = 64 := by kernel_rfl
theorem Tryd.bytes133 : Tryd.prog.bytesOf 133 = 64 := by kernel_rfl
attribute [go_sem] Tryd.underlying2 Tryd.cells2 Tryd.bytes2 Tryd.zero2 Tryd.underlying3 Tryd.cells3 Tryd.bytes3 Tryd.zero3 Tryd.underlying4 Tryd.cells4 Tryd.bytes4 Tryd.zero4
attribute [go_sem] Tryd.underlying5 Tryd.cells5 Tryd.bytes5 Tryd.zero5 Tryd.underlying9 Tryd.cells9 Tryd.bytes9 Tryd.zero9 Tryd.underlying20 Tryd.cells20 Tryd.bytes20 Tryd.zero20
attribute [go_sem] Tryd.underlying22 Tryd.cells22 Tryd.bytes22 Tryd.zero22 Tryd.places22 Tryd.field22_0 Tryd.field22_1 Tryd.underlying23 Tryd.cells23 Tryd.bytes23 Tryd.zero23 Tryd.places23
attribute [go_sem] Tryd.field23_0 Tryd.field23_1 Tryd.underlying25 Tryd.cells25 Tryd.bytes25 Tryd.zero25 Tryd.underlying35 Tryd.cells35 Tryd.bytes35 Tryd.zero35 Tryd.underlying36 Tryd.cells36
attribute [go_sem] Tryd.bytes36 Tryd.zero36 Tryd.underlying37 Tryd.cells37 Tryd.bytes37 Tryd.zero37 Tryd.underlying47 Tryd.cells47 Tryd.bytes47 Tryd.zero47 Tryd.underlying52 Tryd.cells52
attribute [go_sem] Tryd.bytes52 Tryd.zero52 Tryd.underlying56 Tryd.cells56 Tryd.bytes56 Tryd.zero56 Tryd.underlying57 Tryd.cells57 Tryd.bytes57 Tryd.zero57 Tryd.underlying68 Tryd.cells68
attribute [go_sem] Tryd.bytes68 Tryd.zero68 Tryd.underlying69 Tryd.cells69 Tryd.bytes69 Tryd.zero69 Tryd.underlying73 Tryd.cells73 Tryd.bytes73 Tryd.zero73 Tryd.underlying78 Tryd.cells78
attribute [go_sem] Tryd.bytes78 Tryd.zero78 Tryd.underlying79 Tryd.cells79 Tryd.bytes79 Tryd.zero79 Tryd.underlying83 Tryd.cells83 Tryd.bytes83 Tryd.zero83 Tryd.underlying92 Tryd.cells92
attribute [go_sem] Tryd.bytes92 Tryd.zero92 Tryd.underlying93 Tryd.cells93 Tryd.bytes93 Tryd.zero93 Tryd.underlying98 Tryd.cells98 Tryd.bytes98 Tryd.zero98 Tryd.underlying99 Tryd.cells99
attribute [go_sem] Tryd.bytes99 Tryd.zero99 Tryd.underlying110 Tryd.cells110 Tryd.bytes110 Tryd.zero110 Tryd.underlying114 Tryd.cells114 Tryd.bytes114 Tryd.zero114 Tryd.underlying115 Tryd.cells115
attribute [go_sem] Tryd.bytes115 Tryd.zero115 Tryd.underlying117 Tryd.cells117 Tryd.bytes117 Tryd.zero117 Tryd.underlying119 Tryd.cells119 Tryd.bytes119 Tryd.zero119 Tryd.underlying124 Tryd.cells124
attribute [go_sem] Tryd.bytes124 Tryd.zero124 Tryd.underlying125 Tryd.cells125 Tryd.bytes125 Tryd.zero125 Tryd.underlying126 Tryd.cells126 Tryd.bytes126 Tryd.underlying132 Tryd.cells132 Tryd.bytes132
attribute [go_sem] Tryd.zero132 Tryd.underlying133 Tryd.cells133 Tryd.bytes133
end Go.Proofs
set_option linter.unusedSimpArgs false
namespace Go.Proofs
open Go.Hx
theorem fz_lit1 {S : Nat → Prop} {H : AHeap} {nx : Nat} {l : List Value} : ∀ i (_ : i < (l.map AVal.lit).length) (_ : i < (l.map AVal.lit).length), Fz S H nx (l.map AVal.lit)[i] (l.map AVal.lit)[i] := fun i _ _ => by simp only [List.getElem_map]; exact .lit _
theorem fz_q {S : Nat → Prop} {H : AHeap} {nx : Nat} (a b c : Value) : Fz S H nx (.tup [.agg [.lit a, .lit b], .lit c]) (.tup [.agg [.lit a, .lit b], .lit c]) :=
  .tup rfl fun i h _ => match i, h with
    | 0, _ => .agg rfl (fz_lit1 (l := [a, b]))
    | 1, _ => .lit _
theorem fz_i {S : Nat → Prop} {H : AHeap} {nx : Nat} (a c : Value) : Fz S H nx (.tup [.lit a, .lit c]) (.tup [.lit a, .lit c]) := .tup rfl (fz_lit1 (l := [a, c]))
def qOk : AVal → Bool
  | .agg [.lit (.int .i64 _), .lit (.int .i64 _)] => true
  | _ => false
def gdQ : GD := ⟨.agg [.lit (.int .i64 0), .lit (.int .i64 0)], qOk⟩

theorem gdQ_ok {G : Nat → Option (List AVal)} (hG : GOk G) : GdOk Tryd.prog G 47 gdQ := by
  intro g cap cap' H o hl hv hok hc
  refine ACall.clo ⟨_, Tryd.func47, rfl, rfl⟩ fun hcl => ?_
  refine ACall.guard (n := 7) (m := 6) (rs := [.cell 2 23, .cell 3 25]) Tryd.func47 rfl rfl rfl (by kernel_rfl) (by simp) (by decide) Tryd.func71 rfl rfl rfl (by decide) (by kernel_rfl) (by decide) (by decide) (by decide) (by decide) (by decide) (fun _ => by kernel_rfl) (fun _ _ _ => by kernel_rfl) (by decide) (by decide) (by decide) (s1 := ?s) ?_ ?_
  case s => exact ⟨putA (putA (envOf [.clo g [] cap]) (some 2) (.ptr H.next 0 0)) (some 3) (.ptr (H.next + 1) 0 0), ext H [.arr 0 23 [.lit (.int .i64 0), .lit (.int .i64 0)], .arr 0 25 [.lit (.int .i64 0)]]⟩
  · simp (config := { maxSteps := 1000000 }) only [go_sem, Int.reduceToNat, Int.reduceLE, Int.reduceLT, Int.reduceAdd, Int.reduceSub, Int.reduceMul, Int.reduceEq, Int.reduceNe, Nat.reduceEqDiff, Nat.reducePow, Nat.reduceDiv, Nat.reduceMod, Nat.reduceAdd, Nat.reduceMul, Nat.reduceSub, Nat.reduceLT, Nat.reduceLeDiff, reduceIte, reduceCtorEq, appendA_U]
  · refine vc_sound _ _ _ (by rfl) ?_
    simp (config := { maxSteps := 1000000 }) only [go_sem, Int.reduceToNat, Int.reduceLE, Int.reduceLT, Int.reduceAdd, Int.reduceSub, Int.reduceMul, Int.reduceEq, Int.reduceNe, Nat.reduceEqDiff, Nat.reducePow, Nat.reduceDiv, Nat.reduceMod, Nat.reduceAdd, Nat.reduceMul, Nat.reduceSub, Nat.reduceLT, Nat.reduceLeDiff, reduceIte, reduceCtorEq, appendA_U]
    refine AApply.clo ((ACall.frameR (args := [] ++ [] ++ cap) hG (by simpa using hl) (fun i h h' => by simpa using hv _ (fun id hid => get_ext_old H _ id hid) i (by simpa using h) h') hc).mono ?_)
    rintro r H' ⟨rfl, rfl⟩
    refine ⟨trivial, ?_⟩
    cases o with
    | none =>
      intro t v
      refine ⟨⟨putA (putA (putA (envOf [.ptr H.next 0 0, .ptr (H.next + 1) 0 0]) (some 3) (.lit (.iface t v))) (some 4) (.lit (.bool true))) (some 2) (.ptr (H.next + 2) 0 0), ext H [.arr 0 23 [.lit (.int .i64 0), .lit (.int .i64 0)], .arr 0 25 [.lit (.int .i64 0)], .arr 0 23 [.lit (.int .i64 0), .lit (.int .i64 0)]]⟩, 
        ⟨putA (putA (putA (putA (envOf [.ptr H.next 0 0, .ptr (H.next + 1) 0 0]) (some 3) (.lit (.iface t v))) (some 4) (.lit (.bool true))) (some 2) (.ptr (H.next + 2) 0 0)) (some 5) (.agg [.lit (.int .i64 0), .lit (.int .i64 0)]), ext H [.arr 0 23 [.lit (.int .i64 0), .lit (.int .i64 0)], .arr 0 25 [.lit (.int .i64 6)], .arr 0 23 [.lit (.int .i64 0), .lit (.int .i64 0)]]⟩, ?_, ?_, ?_⟩
      · simp (config := { maxSteps := 1000000 }) only [go_sem, Int.reduceToNat, Int.reduceLE, Int.reduceLT, Int.reduceAdd, Int.reduceSub, Int.reduceMul, Int.reduceEq, Int.reduceNe, Nat.reduceEqDiff, Nat.reducePow, Nat.reduceDiv, Nat.reduceMod, Nat.reduceAdd, Nat.reduceMul, Nat.reduceSub, Nat.reduceLT, Nat.reduceLeDiff, reduceIte, reduceCtorEq, appendA_U]
      · simp (config := { maxSteps := 1000000 }) only [go_sem, Int.reduceToNat, Int.reduceLE, Int.reduceLT, Int.reduceAdd, Int.reduceSub, Int.reduceMul, Int.reduceEq, Int.reduceNe, Nat.reduceEqDiff, Nat.reducePow, Nat.reduceDiv, Nat.reduceMod, Nat.reduceAdd, Nat.reduceMul, Nat.reduceSub, Nat.reduceLT, Nat.reduceLeDiff, reduceIte, reduceCtorEq, appendA_U]
      · simp (config := { maxSteps := 1000000 }) only [go_sem, Int.reduceToNat, Int.reduceLE, Int.reduceLT, Int.reduceAdd, Int.reduceSub, Int.reduceMul, Int.reduceEq, Int.reduceNe, Nat.reduceEqDiff, Nat.reducePow, Nat.reduceDiv, Nat.reduceMod, Nat.reduceAdd, Nat.reduceMul, Nat.reduceSub, Nat.reduceLT, Nat.reduceLeDiff, reduceIte, reduceCtorEq, appendA_U]
        exact FinV.drop hG hcl (fz_q _ _ _) ⟨rfl, rfl⟩
    | some u =>
      have hu := hok u rfl
      unfold gdQ qOk at hu
      simp only at hu
      split at hu
      · rename_i a b
        show opsV _ _ _ _ _ _ _
        simp (config := { maxSteps := 1000000 }) only [go_sem, Int.reduceToNat, Int.reduceLE, Int.reduceLT, Int.reduceAdd, Int.reduceSub, Int.reduceMul, Int.reduceEq, Int.reduceNe, Nat.reduceEqDiff, Nat.reducePow, Nat.reduceDiv, Nat.reduceMod, Nat.reduceAdd, Nat.reduceMul, Nat.reduceSub, Nat.reduceLT, Nat.reduceLeDiff, reduceIte, reduceCtorEq, guardQ, appendA_U]
        exact FinV.drop hG hcl (fz_q _ _ _) ⟨rfl, rfl⟩
      · cases hu
def iOk : AVal → Bool
  | .lit (.int .i64 _) => true
  | _ => false
def gdI : GD := ⟨.lit (.int .i64 0), iOk⟩

theorem gdI_ok {G : Nat → Option (List AVal)} (hG : GOk G) : GdOk Tryd.prog G 79 gdI := by
  intro g cap cap' H o hl hv hok hc
  refine ACall.clo ⟨_, Tryd.func79, rfl, rfl⟩ fun hcl => ?_
  refine ACall.guard (n := 7) (m := 6) (rs := [.cell 2 3, .cell 3 25]) Tryd.func79 rfl rfl rfl (by kernel_rfl) (by simp) (by decide) Tryd.func88 rfl rfl rfl (by decide) (by kernel_rfl) (by decide) (by decide) (by decide) (by decide) (by decide) (fun _ => by kernel_rfl) (fun _ _ _ => by kernel_rfl) (by decide) (by decide) (by decide) (s1 := ?s) ?_ ?_
  case s => exact ⟨putA (putA (envOf [.clo g [] cap]) (some 2) (.ptr H.next 0 0)) (some 3) (.ptr (H.next + 1) 0 0), ext H [.arr 0 3 [.lit (.int .i64 0)], .arr 0 25 [.lit (.int .i64 0)]]⟩
  · simp (config := { maxSteps := 1000000 }) only [go_sem, Int.reduceToNat, Int.reduceLE, Int.reduceLT, Int.reduceAdd, Int.reduceSub, Int.reduceMul, Int.reduceEq, Int.reduceNe, Nat.reduceEqDiff, Nat.reducePow, Nat.reduceDiv, Nat.reduceMod, Nat.reduceAdd, Nat.reduceMul, Nat.reduceSub, Nat.reduceLT, Nat.reduceLeDiff, reduceIte, reduceCtorEq, appendA_U]
  · refine vc_sound _ _ _ (by rfl) ?_
    simp (config := { maxSteps := 1000000 }) only [go_sem, Int.reduceToNat, Int.reduceLE, Int.reduceLT, Int.reduceAdd, Int.reduceSub, Int.reduceMul, Int.reduceEq, Int.reduceNe, Nat.reduceEqDiff, Nat.reducePow, Nat.reduceDiv, Nat.reduceMod, Nat.reduceAdd, Nat.reduceMul, Nat.reduceSub, Nat.reduceLT, Nat.reduceLeDiff, reduceIte, reduceCtorEq, appendA_U]
    refine AApply.clo ((ACall.frameR (args := [] ++ [] ++ cap) hG (by simpa using hl) (fun i h h' => by simpa using hv _ (fun id hid => get_ext_old H _ id hid) i (by simpa using h) h') hc).mono ?_)
    rintro r H' ⟨rfl, rfl⟩
    refine ⟨trivial, ?_⟩
    cases o with
    | none =>
      intro t v
      refine ⟨⟨putA (putA (putA (envOf [.ptr H.next 0 0, .ptr (H.next + 1) 0 0]) (some 3) (.lit (.iface t v))) (some 4) (.lit (.bool true))) (some 2) (.lit (.int .i64 0)), ext H [.arr 0 3 [.lit (.int .i64 0)], .arr 0 25 [.lit (.int .i64 0)]]⟩, 
        ⟨putA (putA (putA (putA (envOf [.ptr H.next 0 0, .ptr (H.next + 1) 0 0]) (some 3) (.lit (.iface t v))) (some 4) (.lit (.bool true))) (some 2) (.lit (.int .i64 0))) (some 5) (.lit (.int .i64 0)), ext H [.arr 0 3 [.lit (.int .i64 0)], .arr 0 25 [.lit (.int .i64 6)]]⟩, ?_, ?_, ?_⟩
      · simp (config := { maxSteps := 1000000 }) only [go_sem, Int.reduceToNat, Int.reduceLE, Int.reduceLT, Int.reduceAdd, Int.reduceSub, Int.reduceMul, Int.reduceEq, Int.reduceNe, Nat.reduceEqDiff, Nat.reducePow, Nat.reduceDiv, Nat.reduceMod, Nat.reduceAdd, Nat.reduceMul, Nat.reduceSub, Nat.reduceLT, Nat.reduceLeDiff, reduceIte, reduceCtorEq, appendA_U]
      · simp (config := { maxSteps := 1000000 }) only [go_sem, Int.reduceToNat, Int.reduceLE, Int.reduceLT, Int.reduceAdd, Int.reduceSub, Int.reduceMul, Int.reduceEq, Int.reduceNe, Nat.reduceEqDiff, Nat.reducePow, Nat.reduceDiv, Nat.reduceMod, Nat.reduceAdd, Nat.reduceMul, Nat.reduceSub, Nat.reduceLT, Nat.reduceLeDiff, reduceIte, reduceCtorEq, appendA_U]
      · simp (config := { maxSteps := 1000000 }) only [go_sem, Int.reduceToNat, Int.reduceLE, Int.reduceLT, Int.reduceAdd, Int.reduceSub, Int.reduceMul, Int.reduceEq, Int.reduceNe, Nat.reduceEqDiff, Nat.reducePow, Nat.reduceDiv, Nat.reduceMod, Nat.reduceAdd, Nat.reduceMul, Nat.reduceSub, Nat.reduceLT, Nat.reduceLeDiff, reduceIte, reduceCtorEq, appendA_U]
        exact FinV.drop hG hcl (fz_i _ _) ⟨rfl, rfl⟩
    | some u =>
      have hu := hok u rfl
      unfold gdI iOk at hu
      simp only at hu
      split at hu
      · rename_i a
        show opsV _ _ _ _ _ _ _
        simp (config := { maxSteps := 1000000 }) only [go_sem, Int.reduceToNat, Int.reduceLE, Int.reduceLT, Int.reduceAdd, Int.reduceSub, Int.reduceMul, Int.reduceEq, Int.reduceNe, Nat.reduceEqDiff, Nat.reducePow, Nat.reduceDiv, Nat.reduceMod, Nat.reduceAdd, Nat.reduceMul, Nat.reduceSub, Nat.reduceLT, Nat.reduceLeDiff, reduceIte, reduceCtorEq, guardQ, appendA_U]
        exact FinV.drop hG hcl (fz_i _ _) ⟨rfl, rfl⟩
      · cases hu
end Go.Proofs
set_option linter.unusedSimpArgs false
set_option maxRecDepth 100000
namespace Go.Proofs
open Go.Hx
def tab32 : List Int := [0, 1, 28, 2, 29, 14, 24, 3, 30, 22, 20, 15, 25, 17, 4, 8, 31, 27, 13, 23, 21, 19, 16, 7, 26, 12, 18, 6, 11, 5, 10, 9]
def tab64 : List Int := [0, 1, 56, 2, 57, 49, 28, 3, 61, 58, 42, 50, 38, 29, 17, 4, 62, 47, 59, 36, 45, 43, 51, 22, 53, 39, 33, 30, 24, 18, 12, 5, 63, 55, 48, 27, 60, 41, 37, 16, 46, 35, 44, 21, 52, 32, 23, 11, 54, 26, 40, 15, 34, 20, 31, 10, 25, 14, 19, 9, 13, 8, 7, 6]
def pow10 : List Int := [1, 10, 100, 1000, 10000, 100000, 1000000, 10000000, 100000000, 1000000000, 10000000000, 100000000000, 1000000000000, 10000000000000, 100000000000000, 1000000000000000, 10000000000000000, 100000000000000000, 1000000000000000000, 10000000000000000000]
def kL (k : IntKind) (l : List Int) : List AVal := l.map fun n => .lit (.int k n)
def G0 : Nat → Option (List AVal) := fun g => if g = 3 then some (kL .u64 pow10) else if g = 4 then some (kL .u8 tab32) else if g = 5 then some (kL .u8 tab64) else none
theorem kL_ok (k : IntKind) (l : List Int) : Below 0 (.vptr (kL k l) 0) := .vptr fun i hi => by simp only [kL, List.getElem_map]; exact .lit _
theorem G0_ok : GOk G0 := fun g cells h => by
  unfold G0 at h
  split at h
  · cases h; exact kL_ok _ _
  · split at h
    · cases h; exact kL_ok _ _
    · split at h
      · cases h; exact kL_ok _ _
      · cases h
def qV (n d : Int) : AVal := .agg [.lit (.int .i64 n), .lit (.int .i64 d)]
end Go.Proofs
/-
  The chapter's examples: works() returns true. The call is reckoned out by an evaluator that is proved right. No conditions.
-/
set_option linter.unusedSimpArgs false
namespace Go.Proofs
open Go.Hx
set_option maxRecDepth 100000
def addE (args : Array Value) : Sem Value := do
  let (x, y, c) ← Extern.MathBitsCarry.three "Add64" args
  pure (Extern.MathBitsCarry.pair ((x + y + c) % Extern.MathBitsCarry.m64) ((x + y + c) / Extern.MathBitsCarry.m64))
def subE (args : Array Value) : Sem Value := do
  let (x, y, b) ← Extern.MathBitsCarry.three "Sub64" args
  pure (Extern.MathBitsCarry.pair ((x + Extern.MathBitsCarry.m64 - y - b) % Extern.MathBitsCarry.m64) (if x < y + b then 1 else 0))
def addF : List AVal → Option AVal
  | [.lit (.int .u64 a), .lit (.int .u64 b), .lit (.int .u64 c)] => bif Nat.ble c.toNat 1 then some (.tup [.lit (.int .u64 (Int.ofNat ((a.toNat + b.toNat + c.toNat) % 18446744073709551616))), .lit (.int .u64 (Int.ofNat ((a.toNat + b.toNat + c.toNat) / 18446744073709551616)))]) else none
  | _ => none
def subF : List AVal → Option AVal
  | [.lit (.int .u64 a), .lit (.int .u64 b), .lit (.int .u64 c)] => bif Nat.ble c.toNat 1 then some (.tup [.lit (.int .u64 (Int.ofNat ((a.toNat + 18446744073709551616 - b.toNat - c.toNat) % 18446744073709551616))), .lit (.int .u64 (Int.ofNat (bif Nat.blt a.toNat (b.toNat + c.toNat) then 1 else 0)))]) else none
  | _ => none
def idxF : List AVal → Option AVal
  | [.lit (.string s), .lit (.int .u8 c)] => some (.lit (.int .i64 (match (List.range s.size).find? fun i => s[i]! == c.toNat.toUInt8 with | some i => (i : Int) | none => -1)))
  | _ => none
theorem pair_rel {P : Program} (a b : Nat) (Γ : Gam) (H : AHeap) (w : World) : RelV P Γ H w (.tup [.lit (.int .u64 (Int.ofNat a)), .lit (.int .u64 (Int.ofNat b))]) (Extern.MathBitsCarry.pair a b) := by
  unfold Extern.MathBitsCarry.pair
  refine RelV.tup (cs := [.int .u64 (Int.ofNat a), .int .u64 (Int.ofNat b)]) rfl fun i h _ => ?_
  match i, h with
  | 0, _ => exact .lit _
  | 1, _ => exact .lit _
theorem run_three {P : Program} (s : String) (w : World) (a b c : Int) (hc : ¬ c.toNat > 1) : (Extern.MathBitsCarry.three s #[.int .u64 a, .int .u64 b, .int .u64 c]).run P w = .ok (a.toNat, b.toNat, c.toNat) w := by
  have h1 : ∀ x : Int, (asInt (.int .u64 x)).run P w = .ok x w := fun x => rfl
  show (do
    let c := (← asInt (.int .u64 c)).toNat
    if c > 1 then unsupported _
    pure ((← asInt (.int .u64 a)).toNat, (← asInt (.int .u64 b)).toNat, c) : Sem (Nat × Nat × Nat)).run P w = _
  rw [run_bind_ok (h1 c)]
  simp only [hc, if_false]
  rfl
theorem add_ext {a b c : Int} {r : AVal} (h : addF [.lit (.int .u64 a), .lit (.int .u64 b), .lit (.int .u64 c)] = some r) {H : AHeap} {K : ARes → AHeap → Prop} (hK : K (.ret r) H) : AApply Tryd.prog G0 (.clo 85 [] []) [.lit (.int .u64 a), .lit (.int .u64 b), .lit (.int .u64 c)] H K := by
  simp only [addF] at h
  cases hb : Nat.ble c.toNat 1 with
  | false => rw [hb] at h; cases h
  | true =>
    rw [hb] at h
    have hc : ¬ c.toNat > 1 := by have := Nat.le_of_ble_eq_true hb; omega
    cases h
    refine AApply.ext (e := addE) (vs := [.int .u64 a, .int .u64 b, .int .u64 c]) Tryd.func85 rfl (by kernel_rfl) (by kernel_rfl) (by kernel_rfl) rfl (fun w => ?_) (fun Γ H w => pair_rel _ _ Γ H w) hK
    unfold addE
    rw [run_bind_ok (run_three _ w a b c hc)]
    rfl
theorem sub_ext {a b c : Int} {r : AVal} (h : subF [.lit (.int .u64 a), .lit (.int .u64 b), .lit (.int .u64 c)] = some r) {H : AHeap} {K : ARes → AHeap → Prop} (hK : K (.ret r) H) : AApply Tryd.prog G0 (.clo 86 [] []) [.lit (.int .u64 a), .lit (.int .u64 b), .lit (.int .u64 c)] H K := by
  simp only [subF] at h
  cases hb : Nat.ble c.toNat 1 with
  | false => rw [hb] at h; cases h
  | true =>
    rw [hb] at h
    have hc : ¬ c.toNat > 1 := by have := Nat.le_of_ble_eq_true hb; omega
    cases h
    refine AApply.ext (e := subE) (vs := [.int .u64 a, .int .u64 b, .int .u64 c]) (v := Extern.MathBitsCarry.pair ((a.toNat + 18446744073709551616 - b.toNat - c.toNat) % 18446744073709551616) (bif Nat.blt a.toNat (b.toNat + c.toNat) then 1 else 0)) Tryd.func86 rfl (by kernel_rfl) (by kernel_rfl) (by kernel_rfl) rfl (fun w => ?_) (fun Γ H w => pair_rel _ _ Γ H w) hK
    unfold subE
    rw [run_bind_ok (run_three _ w a b c hc)]
    by_cases hl : a.toNat < b.toNat + c.toNat
    · have : Nat.blt a.toNat (b.toNat + c.toNat) = true := by rw [Nat.blt_eq]; exact hl
      rw [this]
      simp only [hl, if_true, cond_true]
      rfl
    · have : Nat.blt a.toNat (b.toNat + c.toNat) = false := by
        cases h : Nat.blt a.toNat (b.toNat + c.toNat) with
        | false => rfl
        | true => rw [Nat.blt_eq] at h; exact absurd h hl
      rw [this]
      simp only [hl, if_false, cond_false]
      rfl
theorem idx_ext {s : ByteArray} {c : Int} {r : AVal} (h : idxF [.lit (.string s), .lit (.int .u8 c)] = some r) {H : AHeap} {K : ARes → AHeap → Prop} (hK : K (.ret r) H) : AApply Tryd.prog G0 (.clo 106 [] []) [.lit (.string s), .lit (.int .u8 c)] H K := by
  simp only [idxF] at h
  cases h
  refine AApply.ext (e := Extern.BytealgIndexByte.indexByte) (vs := [.string s, .int .u8 c]) Tryd.func106 rfl (by kernel_rfl) (by kernel_rfl) (by kernel_rfl) rfl (fun w => ?_) (fun Γ H w => .lit _) hK
  have h1 : (Extern.Bytes.bytesOf (.string s)).run Tryd.prog w = .ok s w := rfl
  have h2 : (Extern.Bytes.asByte (.int .u8 c)).run Tryd.prog w = .ok c.toNat.toUInt8 w := rfl
  show (do
    let b ← Extern.Bytes.bytesOf (.string s)
    let c ← Extern.Bytes.asByte (.int .u8 c)
    match (List.range b.size).find? fun i => b[i]! == c with
    | some i => pure (goInt i)
    | none => pure (goInt (-1)) : Sem Value).run Tryd.prog w = _
  rw [run_bind_ok h1, run_bind_ok h2]
  cases (List.range s.size).find? fun i => s[i]! == c.toNat.toUInt8 <;> rfl
def extT : FuncId → Option (List AVal → Option AVal) := fun f => bif Nat.beq f 85 then some addF else bif Nat.beq f 86 then some subF else bif Nat.beq f 106 then some idxF else none
def gdT : FuncId → Option GD := fun f => bif Nat.beq f 47 then some gdQ else bif Nat.beq f 79 then some gdI else none
theorem gdT_ok : ∀ f z, gdT f = some z → GdOk Tryd.prog G0 f z := by
  intro f z h
  unfold gdT at h
  cases h1 : Nat.beq f 47 with
  | true =>
    rw [h1] at h
    have e := Nat.eq_of_beq_eq_true h1
    subst e
    cases h
    exact gdQ_ok G0_ok
  | false =>
    rw [h1] at h
    cases h2 : Nat.beq f 79 with
    | true =>
      rw [h2] at h
      have e := Nat.eq_of_beq_eq_true h2
      subst e
      cases h
      exact gdI_ok G0_ok
    | false => rw [h2] at h; cases h
theorem addF_args : ∀ {args : List AVal} {r : AVal}, addF args = some r → ∃ a b c, args = [.lit (.int .u64 a), .lit (.int .u64 b), .lit (.int .u64 c)] := by
  intro args r h
  unfold addF at h
  split at h
  · exact ⟨_, _, _, rfl⟩
  · cases h
theorem subF_args : ∀ {args : List AVal} {r : AVal}, subF args = some r → ∃ a b c, args = [.lit (.int .u64 a), .lit (.int .u64 b), .lit (.int .u64 c)] := by
  intro args r h
  unfold subF at h
  split at h
  · exact ⟨_, _, _, rfl⟩
  · cases h
theorem idxF_args : ∀ {args : List AVal} {r : AVal}, idxF args = some r → ∃ s c, args = [.lit (.string s), .lit (.int .u8 c)] := by
  intro args r h
  unfold idxF at h
  split at h
  · exact ⟨_, _, rfl⟩
  · cases h
noncomputable def Tryd.epW : EP := { P := Tryd.prog, G := G0, gd := gdT, known := knownOf [], ext := extT }
theorem Tryd.ext_ok : ExtOk Tryd.epW := by
  intro f e h args r hr H K hK
  have h' : extT f = some e := h
  unfold extT at h'
  cases h1 : Nat.beq f 85 with
  | true =>
    rw [h1] at h'
    have e1 := Nat.eq_of_beq_eq_true h1
    subst e1
    cases h'
    obtain ⟨a, b, c, rfl⟩ := addF_args hr
    exact add_ext hr hK
  | false =>
  rw [h1] at h'
  cases h2 : Nat.beq f 86 with
  | true =>
    rw [h2] at h'
    have e1 := Nat.eq_of_beq_eq_true h2
    subst e1
    cases h'
    obtain ⟨a, b, c, rfl⟩ := subF_args hr
    exact sub_ext hr hK
  | false =>
  rw [h2] at h'
  cases h3 : Nat.beq f 106 with
  | true =>
    rw [h3] at h'
    have e1 := Nat.eq_of_beq_eq_true h3
    subst e1
    cases h'
    obtain ⟨s, c, rfl⟩ := idxF_args hr
    exact idx_ext hr hK
  | false => rw [h3] at h'; cases h'
theorem Tryd.epW_ok : EOk Tryd.epW := .of_known (l := []) rfl G0_ok Tryd.mixed gdT_ok trivial Tryd.ext_ok
theorem Tryd.works_chk : chk Tryd.epW 1000000 12 [] (.lit (.bool true)) = true := by kernel_rfl
def WorksOk : Prop := ∀ (H : AHeap) (K : ARes → AHeap → Prop), K (.ret (.lit (.bool true))) H → ACall Tryd.prog G0 12 [] H K
theorem works_ok : WorksOk := fun H K hK =>
  (ACall.frame (args' := []) G0_ok rfl (fun i h _ => absurd h (Nat.not_lt_zero _)) (chk_ok Tryd.epW_ok Tryd.works_chk)).mono fun r H' ⟨h1, h2⟩ => by rw [h1, h2]; exact hK
end Go.Proofs
