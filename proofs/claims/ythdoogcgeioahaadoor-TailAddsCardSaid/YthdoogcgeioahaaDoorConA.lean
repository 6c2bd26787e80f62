/-
  Closed facts of this seat's types. Laid by a program of ours.
-/
import Derived.Test.YthdoogcgeioahaaDoorProg
import Derived.Test.YthdoogcgeioahaaDoorLibE
import Derived.Test.YthdoogcgeioahaaDoorLibD
import Derived.Test.YthdoogcgeioahaaDoorLibC
set_option linter.all false
namespace Go.Proofs
open Go.Hx
theorem Tryd.mixed : Tryd.prog.follows .mixedOrders = true := by kernel_rfl
theorem Tryd.cells3 : Tryd.prog.cellsOf 3 = 1 := by kernel_rfl
theorem Tryd.bytes3 : Tryd.prog.bytesOf 3 = 8 := by kernel_rfl
theorem Tryd.zero3 : zeroA Tryd.prog 3 = some [.lit (.int .i64 0)] := by kernel_rfl
theorem Tryd.cells4 : Tryd.prog.cellsOf 4 = 1 := by kernel_rfl
theorem Tryd.bytes4 : Tryd.prog.bytesOf 4 = 1 := by kernel_rfl
theorem Tryd.zero4 : zeroA Tryd.prog 4 = some [.lit (.bool false)] := by kernel_rfl
theorem Tryd.cells5 : Tryd.prog.cellsOf 5 = 1 := by kernel_rfl
theorem Tryd.bytes5 : Tryd.prog.bytesOf 5 = 1 := by kernel_rfl
theorem Tryd.zero5 : zeroA Tryd.prog 5 = some [.lit (.int .u8 0)] := by kernel_rfl
theorem Tryd.cells9 : Tryd.prog.cellsOf 9 = 1 := by kernel_rfl
theorem Tryd.bytes9 : Tryd.prog.bytesOf 9 = 16 := by kernel_rfl
theorem Tryd.zero9 : zeroA Tryd.prog 9 = some [.lit (.string ByteArray.empty)] := by kernel_rfl
theorem Tryd.cells20 : Tryd.prog.cellsOf 20 = 1 := by kernel_rfl
theorem Tryd.bytes20 : Tryd.prog.bytesOf 20 = 16 := by kernel_rfl
theorem Tryd.zero20 : zeroA Tryd.prog 20 = some [.lit .nilIface] := by kernel_rfl
theorem Tryd.cells22 : Tryd.prog.cellsOf 22 = 9 := by kernel_rfl
theorem Tryd.bytes22 : Tryd.prog.bytesOf 22 = 9 := by kernel_rfl
theorem Tryd.zero22 : zeroA Tryd.prog 22 = some [.lit (.int .u8 0), .lit (.int .u8 0), .lit (.int .u8 0), .lit (.int .u8 0), .lit (.int .u8 0), .lit (.int .u8 0), .lit (.int .u8 0), .lit (.int .u8 0), .lit (.int .u8 0)] := by kernel_rfl
theorem Tryd.cells23 : Tryd.prog.cellsOf 23 = 12 := by kernel_rfl
theorem Tryd.bytes23 : Tryd.prog.bytesOf 23 = 12 := by kernel_rfl
theorem Tryd.zero23 : zeroA Tryd.prog 23 = some [.lit (.int .u8 0), .lit (.int .u8 0), .lit (.int .u8 0), .lit (.int .u8 0), .lit (.int .u8 0), .lit (.int .u8 0), .lit (.int .u8 0), .lit (.int .u8 0), .lit (.int .u8 0), .lit (.int .u8 0), .lit (.int .u8 0), .lit (.int .u8 0)] := by kernel_rfl
theorem Tryd.places23 : placesA Tryd.prog 23 = some [(0, 1), (1, 1), (2, 9), (11, 1)] := by kernel_rfl
theorem Tryd.field23_0 : fieldA Tryd.prog 23 0 = some (0, 5) := by kernel_rfl
theorem Tryd.field23_1 : fieldA Tryd.prog 23 1 = some (1, 5) := by kernel_rfl
theorem Tryd.field23_2 : fieldA Tryd.prog 23 2 = some (2, 22) := by kernel_rfl
theorem Tryd.field23_3 : fieldA Tryd.prog 23 3 = some (11, 5) := by kernel_rfl
theorem Tryd.cells24 : Tryd.prog.cellsOf 24 = 12 := by kernel_rfl
theorem Tryd.bytes24 : Tryd.prog.bytesOf 24 = 12 := by kernel_rfl
theorem Tryd.zero24 : zeroA Tryd.prog 24 = some [.lit (.int .u8 0), .lit (.int .u8 0), .lit (.int .u8 0), .lit (.int .u8 0), .lit (.int .u8 0), .lit (.int .u8 0), .lit (.int .u8 0), .lit (.int .u8 0), .lit (.int .u8 0), .lit (.int .u8 0), .lit (.int .u8 0), .lit (.int .u8 0)] := by kernel_rfl
theorem Tryd.places24 : placesA Tryd.prog 24 = some [(0, 1), (1, 1), (2, 9), (11, 1)] := by kernel_rfl
theorem Tryd.field24_0 : fieldA Tryd.prog 24 0 = some (0, 5) := by kernel_rfl
theorem Tryd.field24_1 : fieldA Tryd.prog 24 1 = some (1, 5) := by kernel_rfl
theorem Tryd.field24_2 : fieldA Tryd.prog 24 2 = some (2, 22) := by kernel_rfl
theorem Tryd.field24_3 : fieldA Tryd.prog 24 3 = some (11, 5) := by kernel_rfl
theorem Tryd.cells26 : Tryd.prog.cellsOf 26 = 1 := by kernel_rfl
theorem Tryd.bytes26 : Tryd.prog.bytesOf 26 = 24 := by kernel_rfl
theorem Tryd.zero26 : zeroA Tryd.prog 26 = some [.lit (.slice none 0 0)] := by kernel_rfl
theorem Tryd.cells28 : Tryd.prog.cellsOf 28 = 2 := by kernel_rfl
theorem Tryd.bytes28 : Tryd.prog.bytesOf 28 = 16 := by kernel_rfl
theorem Tryd.zero28 : zeroA Tryd.prog 28 = some [.lit (.int .i64 0), .lit (.int .i64 0)] := by kernel_rfl
theorem Tryd.places28 : placesA Tryd.prog 28 = some [(0, 1), (1, 1)] := by kernel_rfl
theorem Tryd.field28_0 : fieldA Tryd.prog 28 0 = some (0, 3) := by kernel_rfl
theorem Tryd.field28_1 : fieldA Tryd.prog 28 1 = some (1, 3) := by kernel_rfl
theorem Tryd.cells29 : Tryd.prog.cellsOf 29 = 2 := by kernel_rfl
theorem Tryd.bytes29 : Tryd.prog.bytesOf 29 = 16 := by kernel_rfl
theorem Tryd.zero29 : zeroA Tryd.prog 29 = some [.lit (.int .i64 0), .lit (.int .i64 0)] := by kernel_rfl
theorem Tryd.places29 : placesA Tryd.prog 29 = some [(0, 1), (1, 1)] := by kernel_rfl
theorem Tryd.field29_0 : fieldA Tryd.prog 29 0 = some (0, 3) := by kernel_rfl
theorem Tryd.field29_1 : fieldA Tryd.prog 29 1 = some (1, 3) := by kernel_rfl
theorem Tryd.cells31 : Tryd.prog.cellsOf 31 = 1 := by kernel_rfl
theorem Tryd.bytes31 : Tryd.prog.bytesOf 31 = 24 := by kernel_rfl
theorem Tryd.zero31 : zeroA Tryd.prog 31 = some [.lit (.slice none 0 0)] := by kernel_rfl
theorem Tryd.cells32 : Tryd.prog.cellsOf 32 = 1 := by kernel_rfl
theorem Tryd.bytes32 : Tryd.prog.bytesOf 32 = 8 := by kernel_rfl
theorem Tryd.zero32 : zeroA Tryd.prog 32 = some [.lit (.int .i64 0)] := by kernel_rfl
theorem Tryd.cells46 : Tryd.prog.cellsOf 46 = 1 := by kernel_rfl
theorem Tryd.bytes46 : Tryd.prog.bytesOf 46 = 24 := by kernel_rfl
theorem Tryd.zero46 : zeroA Tryd.prog 46 = some [.lit (.slice none 0 0)] := by kernel_rfl
theorem Tryd.cells47 : Tryd.prog.cellsOf 47 = 3 := by kernel_rfl
theorem Tryd.bytes47 : Tryd.prog.bytesOf 47 = 72 := by kernel_rfl
theorem Tryd.zero47 : zeroA Tryd.prog 47 = some [.lit (.slice none 0 0), .lit (.slice none 0 0), .lit (.slice none 0 0)] := by kernel_rfl
theorem Tryd.cells58 : Tryd.prog.cellsOf 58 = 2 := by kernel_rfl
theorem Tryd.bytes58 : Tryd.prog.bytesOf 58 = 2 := by kernel_rfl
theorem Tryd.zero58 : zeroA Tryd.prog 58 = some [.lit (.int .u8 0), .lit (.int .u8 0)] := by kernel_rfl
theorem Tryd.cells59 : Tryd.prog.cellsOf 59 = 2 := by kernel_rfl
theorem Tryd.bytes59 : Tryd.prog.bytesOf 59 = 48 := by kernel_rfl
theorem Tryd.zero59 : zeroA Tryd.prog 59 = some [.lit (.slice none 0 0), .lit (.slice none 0 0)] := by kernel_rfl
theorem Tryd.cells61 : Tryd.prog.cellsOf 61 = 6 := by kernel_rfl
theorem Tryd.bytes61 : Tryd.prog.bytesOf 61 = 48 := by kernel_rfl
theorem Tryd.zero61 : zeroA Tryd.prog 61 = some [.lit (.int .i64 0), .lit (.int .i64 0), .lit (.int .i64 0), .lit (.int .i64 0), .lit (.int .i64 0), .lit (.int .i64 0)] := by kernel_rfl
theorem Tryd.cells68 : Tryd.prog.cellsOf 68 = 5 := by kernel_rfl
theorem Tryd.bytes68 : Tryd.prog.bytesOf 68 = 120 := by kernel_rfl
theorem Tryd.zero68 : zeroA Tryd.prog 68 = some [.lit (.slice none 0 0), .lit (.slice none 0 0), .lit (.slice none 0 0), .lit (.slice none 0 0), .lit (.slice none 0 0)] := by kernel_rfl
theorem Tryd.cells74 : Tryd.prog.cellsOf 74 = 3 := by kernel_rfl
theorem Tryd.bytes74 : Tryd.prog.bytesOf 74 = 24 := by kernel_rfl
theorem Tryd.zero74 : zeroA Tryd.prog 74 = some [.lit (.int .i64 0), .lit (.int .i64 0), .lit (.int .i64 0)] := by kernel_rfl
theorem Tryd.cells75 : Tryd.prog.cellsOf 75 = 9 := by kernel_rfl
theorem Tryd.bytes75 : Tryd.prog.bytesOf 75 = 72 := by kernel_rfl
theorem Tryd.zero75 : zeroA Tryd.prog 75 = some [.lit (.int .i64 0), .lit (.int .i64 0), .lit (.int .i64 0), .lit (.int .i64 0), .lit (.int .i64 0), .lit (.int .i64 0), .lit (.int .i64 0), .lit (.int .i64 0), .lit (.int .i64 0)] := by kernel_rfl
theorem Tryd.cells76 : Tryd.prog.cellsOf 76 = 9 := by kernel_rfl
theorem Tryd.bytes76 : Tryd.prog.bytesOf 76 = 72 := by kernel_rfl
theorem Tryd.zero76 : zeroA Tryd.prog 76 = some [.lit (.int .i64 0), .lit (.int .i64 0), .lit (.int .i64 0), .lit (.int .i64 0), .lit (.int .i64 0), .lit (.int .i64 0), .lit (.int .i64 0), .lit (.int .i64 0), .lit (.int .i64 0)] := by kernel_rfl
theorem Tryd.cells89 : Tryd.prog.cellsOf 89 = 1 := by kernel_rfl
theorem Tryd.bytes89 : Tryd.prog.bytesOf 89 = 8 := by kernel_rfl
theorem Tryd.zero89 : zeroA Tryd.prog 89 = some [.lit .nilFunc] := by kernel_rfl
theorem Tryd.cells90 : Tryd.prog.cellsOf 90 = 1 := by kernel_rfl
theorem Tryd.bytes90 : Tryd.prog.bytesOf 90 = 8 := by kernel_rfl
theorem Tryd.zero90 : zeroA Tryd.prog 90 = some [.lit .nilFunc] := by kernel_rfl
theorem Tryd.cells91 : Tryd.prog.cellsOf 91 = 21 := by kernel_rfl
theorem Tryd.bytes91 : Tryd.prog.bytesOf 91 = 168 := by kernel_rfl
theorem Tryd.zero91 : zeroA Tryd.prog 91 = some [.lit (.int .i64 0), .lit (.int .i64 0), .lit (.int .i64 0), .lit (.int .i64 0), .lit (.int .i64 0), .lit (.int .i64 0), .lit (.int .i64 0), .lit (.int .i64 0), .lit (.int .i64 0), .lit (.int .i64 0), .lit (.int .i64 0), .lit (.int .i64 0), .lit (.int .i64 0), .lit (.int .i64 0), .lit (.int .i64 0), .lit (.int .i64 0), .lit (.int .i64 0), .lit (.int .i64 0), .lit (.int .i64 0), .lit (.int .i64 0), .lit (.int .i64 0)] := by kernel_rfl
theorem Tryd.cells92 : Tryd.prog.cellsOf 92 = 1 := by kernel_rfl
theorem Tryd.bytes92 : Tryd.prog.bytesOf 92 = 8 := by kernel_rfl
theorem Tryd.zero92 : zeroA Tryd.prog 92 = some [.lit (.int .u64 0)] := by kernel_rfl
theorem Tryd.cells96 : Tryd.prog.cellsOf 96 = 2 := by kernel_rfl
theorem Tryd.bytes96 : Tryd.prog.bytesOf 96 = 16 := by kernel_rfl
theorem Tryd.zero96 : zeroA Tryd.prog 96 = some [.lit (.int .u64 0), .lit (.int .u64 0)] := by kernel_rfl
theorem Tryd.cells97 : Tryd.prog.cellsOf 97 = 2 := by kernel_rfl
theorem Tryd.bytes97 : Tryd.prog.bytesOf 97 = 16 := by kernel_rfl
theorem Tryd.zero97 : zeroA Tryd.prog 97 = some [.lit (.int .u64 0), .lit (.int .u64 0)] := by kernel_rfl
theorem Tryd.cells100 : Tryd.prog.cellsOf 100 = 1 := by kernel_rfl
theorem Tryd.bytes100 : Tryd.prog.bytesOf 100 = 8 := by kernel_rfl
theorem Tryd.zero100 : zeroA Tryd.prog 100 = some [.lit .nilFunc] := by kernel_rfl
theorem Tryd.cells113 : Tryd.prog.cellsOf 113 = 0 := by kernel_rfl
theorem Tryd.bytes113 : Tryd.prog.bytesOf 113 = 0 := by kernel_rfl
theorem Tryd.zero113 : zeroA Tryd.prog 113 = some [] := by kernel_rfl
theorem Tryd.cells114 : Tryd.prog.cellsOf 114 = 0 := by kernel_rfl
theorem Tryd.bytes114 : Tryd.prog.bytesOf 114 = 0 := by kernel_rfl
theorem Tryd.zero114 : zeroA Tryd.prog 114 = some [] := by kernel_rfl
theorem Tryd.cells115 : Tryd.prog.cellsOf 115 = 1 := by kernel_rfl
theorem Tryd.bytes115 : Tryd.prog.bytesOf 115 = 8 := by kernel_rfl
theorem Tryd.zero115 : zeroA Tryd.prog 115 = some [.lit (.int .u64 0)] := by kernel_rfl
attribute [go_sem] Tryd.underlying3 Tryd.cells3 Tryd.bytes3 Tryd.zero3 Tryd.underlying4 Tryd.cells4 Tryd.bytes4 Tryd.zero4 Tryd.underlying5 Tryd.cells5 Tryd.bytes5 Tryd.zero5
attribute [go_sem] Tryd.underlying9 Tryd.cells9 Tryd.bytes9 Tryd.zero9 Tryd.underlying20 Tryd.cells20 Tryd.bytes20 Tryd.zero20 Tryd.underlying22 Tryd.cells22 Tryd.bytes22 Tryd.zero22
attribute [go_sem] Tryd.underlying23 Tryd.cells23 Tryd.bytes23 Tryd.zero23 Tryd.places23 Tryd.field23_0 Tryd.field23_1 Tryd.field23_2 Tryd.field23_3 Tryd.underlying24 Tryd.cells24 Tryd.bytes24
attribute [go_sem] Tryd.zero24 Tryd.places24 Tryd.field24_0 Tryd.field24_1 Tryd.field24_2 Tryd.field24_3 Tryd.underlying26 Tryd.cells26 Tryd.bytes26 Tryd.zero26 Tryd.underlying28 Tryd.cells28
attribute [go_sem] Tryd.bytes28 Tryd.zero28 Tryd.places28 Tryd.field28_0 Tryd.field28_1 Tryd.underlying29 Tryd.cells29 Tryd.bytes29 Tryd.zero29 Tryd.places29 Tryd.field29_0 Tryd.field29_1
attribute [go_sem] Tryd.underlying31 Tryd.cells31 Tryd.bytes31 Tryd.zero31 Tryd.underlying32 Tryd.cells32 Tryd.bytes32 Tryd.zero32 Tryd.underlying46 Tryd.cells46 Tryd.bytes46 Tryd.zero46
attribute [go_sem] Tryd.underlying47 Tryd.cells47 Tryd.bytes47 Tryd.zero47 Tryd.underlying58 Tryd.cells58 Tryd.bytes58 Tryd.zero58 Tryd.underlying59 Tryd.cells59 Tryd.bytes59 Tryd.zero59
attribute [go_sem] Tryd.underlying61 Tryd.cells61 Tryd.bytes61 Tryd.zero61 Tryd.underlying68 Tryd.cells68 Tryd.bytes68 Tryd.zero68 Tryd.underlying74 Tryd.cells74 Tryd.bytes74 Tryd.zero74
attribute [go_sem] Tryd.underlying75 Tryd.cells75 Tryd.bytes75 Tryd.zero75 Tryd.underlying76 Tryd.cells76 Tryd.bytes76 Tryd.zero76 Tryd.underlying89 Tryd.cells89 Tryd.bytes89 Tryd.zero89
attribute [go_sem] Tryd.underlying90 Tryd.cells90 Tryd.bytes90 Tryd.zero90 Tryd.underlying91 Tryd.cells91 Tryd.bytes91 Tryd.zero91 Tryd.underlying92 Tryd.cells92 Tryd.bytes92 Tryd.zero92
attribute [go_sem] Tryd.underlying96 Tryd.cells96 Tryd.bytes96 Tryd.zero96 Tryd.underlying97 Tryd.cells97 Tryd.bytes97 Tryd.zero97 Tryd.underlying100 Tryd.cells100 Tryd.bytes100 Tryd.zero100
attribute [go_sem] Tryd.underlying113 Tryd.cells113 Tryd.bytes113 Tryd.zero113 Tryd.underlying114 Tryd.cells114 Tryd.bytes114 Tryd.zero114 Tryd.underlying115 Tryd.cells115 Tryd.bytes115 Tryd.zero115
end Go.Proofs
set_option linter.unusedSimpArgs false
namespace Go.Proofs
open Go.Hx
theorem lay2 (H : AHeap) (a b : Blk) : (ext H [a]).lay (H.next + 1) b = some (ext H [a, b]) := lay_ext H [a] b
theorem live1 (H : AHeap) (a b : Blk) (L : List Blk) (gen : Nat) : (ext H (a :: b :: L)).live (H.next + 1) gen = liveL (some b) gen := live_ext H (a :: b :: L) 1 gen (by simp)
theorem upd1 (H : AHeap) (a b c : Blk) (L : List Blk) : (ext H (a :: b :: L)).upd (H.next + 1) c = ext H (a :: c :: L) := upd_ext H (a :: b :: L) 1 c (by simp)
theorem lay3 (H : AHeap) (a b c : Blk) : (ext H [a, b]).lay (H.next + 2) c = some (ext H [a, b, c]) := lay_ext H [a, b] c
theorem live2 (H : AHeap) (a b c : Blk) (L : List Blk) (gen : Nat) : (ext H (a :: b :: c :: L)).live (H.next + 2) gen = liveL (some c) gen := live_ext H (a :: b :: c :: L) 2 gen (by simp)
theorem fz_lit1 {S : Nat → Prop} {H : AHeap} {nx : Nat} {l : List Value} : ∀ i (_ : i < (l.map AVal.lit).length) (_ : i < (l.map AVal.lit).length), Fz S H nx (l.map AVal.lit)[i] (l.map AVal.lit)[i] := fun i _ _ => by simp only [List.getElem_map]; exact .lit _
theorem fz_q {S : Nat → Prop} {H : AHeap} {nx : Nat} (a b c : Value) : Fz S H nx (.tup [.agg [.lit a, .lit b], .lit c]) (.tup [.agg [.lit a, .lit b], .lit c]) :=
  .tup rfl fun i h _ => match i, h with
    | 0, _ => .agg rfl (fz_lit1 (l := [a, b]))
    | 1, _ => .lit _
theorem fz_i {S : Nat → Prop} {H : AHeap} {nx : Nat} (a c : Value) : Fz S H nx (.tup [.lit a, .lit c]) (.tup [.lit a, .lit c]) := .tup rfl (fz_lit1 (l := [a, c]))
def qOk : AVal → Bool
  | .agg [.lit (.int .i64 _), .lit (.int .i64 _)] => true
  | _ => false
def gdQ : GD := ⟨.agg [.lit (.int .i64 0), .lit (.int .i64 0)], qOk⟩

theorem gd61 {G : Nat → Option (List AVal)} (hG : GOk G) : GdOk Tryd.prog G 61 gdQ := by
  intro g cap cap' H o hl hv hok hc
  refine ACall.clo ⟨_, Tryd.func61, rfl, rfl⟩ fun hcl => ?_
  refine ACall.guard (n := 7) (m := 6) (rs := [.cell 2 29, .cell 3 32]) Tryd.func61 rfl rfl rfl (by kernel_rfl) (by simp) (by decide) Tryd.func71 rfl rfl rfl (by decide) (by kernel_rfl) (by decide) (by decide) (by decide) (by decide) (by decide) (fun _ => by kernel_rfl) (fun _ _ _ => by kernel_rfl) (by decide) (by decide) (by decide) (s1 := ?s) ?_ ?_
  case s => exact ⟨putA (putA (envOf [.clo g [] cap]) (some 2) (.ptr H.next 0 0)) (some 3) (.ptr (H.next + 1) 0 0), ext H [.arr 0 29 [.lit (.int .i64 0), .lit (.int .i64 0)], .arr 0 32 [.lit (.int .i64 0)]]⟩
  · simp (config := { maxSteps := 1000000 }) only [go_sem, Int.reduceToNat, Int.reduceLE, Int.reduceLT, Int.reduceAdd, Int.reduceSub, Int.reduceMul, Int.reduceEq, Int.reduceNe, Nat.reduceEqDiff, Nat.reducePow, Nat.reduceDiv, Nat.reduceMod, Nat.reduceAdd, Nat.reduceMul, Nat.reduceSub, Nat.reduceLT, Nat.reduceLeDiff, reduceIte, reduceCtorEq, appendA_U]
  · refine vc_sound _ _ _ (by rfl) ?_
    simp (config := { maxSteps := 1000000 }) only [go_sem, Int.reduceToNat, Int.reduceLE, Int.reduceLT, Int.reduceAdd, Int.reduceSub, Int.reduceMul, Int.reduceEq, Int.reduceNe, Nat.reduceEqDiff, Nat.reducePow, Nat.reduceDiv, Nat.reduceMod, Nat.reduceAdd, Nat.reduceMul, Nat.reduceSub, Nat.reduceLT, Nat.reduceLeDiff, reduceIte, reduceCtorEq, appendA_U]
    refine AApply.clo ((ACall.frameR (args := [] ++ [] ++ cap) hG (by simpa using hl) (fun i h h' => by simpa using hv _ (fun id hid => get_ext_old H _ id hid) i (by simpa using h) h') hc).mono ?_)
    rintro r H' ⟨rfl, rfl⟩
    refine ⟨trivial, ?_⟩
    cases o with
    | none =>
      intro t v
      refine ⟨⟨putA (putA (putA (envOf [.ptr H.next 0 0, .ptr (H.next + 1) 0 0]) (some 3) (.lit (.iface t v))) (some 4) (.lit (.bool true))) (some 2) (.ptr (H.next + 2) 0 0), ext H [.arr 0 29 [.lit (.int .i64 0), .lit (.int .i64 0)], .arr 0 32 [.lit (.int .i64 0)], .arr 0 29 [.lit (.int .i64 0), .lit (.int .i64 0)]]⟩, 
        ⟨putA (putA (putA (putA (envOf [.ptr H.next 0 0, .ptr (H.next + 1) 0 0]) (some 3) (.lit (.iface t v))) (some 4) (.lit (.bool true))) (some 2) (.ptr (H.next + 2) 0 0)) (some 5) (.agg [.lit (.int .i64 0), .lit (.int .i64 0)]), ext H [.arr 0 29 [.lit (.int .i64 0), .lit (.int .i64 0)], .arr 0 32 [.lit (.int .i64 6)], .arr 0 29 [.lit (.int .i64 0), .lit (.int .i64 0)]]⟩, ?_, ?_, ?_⟩
      · simp (config := { maxSteps := 1000000 }) only [go_sem, Int.reduceToNat, Int.reduceLE, Int.reduceLT, Int.reduceAdd, Int.reduceSub, Int.reduceMul, Int.reduceEq, Int.reduceNe, Nat.reduceEqDiff, Nat.reducePow, Nat.reduceDiv, Nat.reduceMod, Nat.reduceAdd, Nat.reduceMul, Nat.reduceSub, Nat.reduceLT, Nat.reduceLeDiff, reduceIte, reduceCtorEq, appendA_U]
      · simp (config := { maxSteps := 1000000 }) only [go_sem, Int.reduceToNat, Int.reduceLE, Int.reduceLT, Int.reduceAdd, Int.reduceSub, Int.reduceMul, Int.reduceEq, Int.reduceNe, Nat.reduceEqDiff, Nat.reducePow, Nat.reduceDiv, Nat.reduceMod, Nat.reduceAdd, Nat.reduceMul, Nat.reduceSub, Nat.reduceLT, Nat.reduceLeDiff, reduceIte, reduceCtorEq, appendA_U]
      · simp (config := { maxSteps := 1000000 }) only [go_sem, Int.reduceToNat, Int.reduceLE, Int.reduceLT, Int.reduceAdd, Int.reduceSub, Int.reduceMul, Int.reduceEq, Int.reduceNe, Nat.reduceEqDiff, Nat.reducePow, Nat.reduceDiv, Nat.reduceMod, Nat.reduceAdd, Nat.reduceMul, Nat.reduceSub, Nat.reduceLT, Nat.reduceLeDiff, reduceIte, reduceCtorEq, appendA_U]
        exact FinV.drop hG hcl (fz_q _ _ _) ⟨rfl, rfl⟩
    | some u =>
      have hu := hok u rfl
      unfold gdQ qOk at hu
      simp only at hu
      split at hu
      · rename_i a b
        show opsV _ _ _ _ _ _ _
        simp (config := { maxSteps := 1000000 }) only [go_sem, Int.reduceToNat, Int.reduceLE, Int.reduceLT, Int.reduceAdd, Int.reduceSub, Int.reduceMul, Int.reduceEq, Int.reduceNe, Nat.reduceEqDiff, Nat.reducePow, Nat.reduceDiv, Nat.reduceMod, Nat.reduceAdd, Nat.reduceMul, Nat.reduceSub, Nat.reduceLT, Nat.reduceLeDiff, reduceIte, reduceCtorEq, guardQ, appendA_U]
        exact FinV.drop hG hcl (fz_q _ _ _) ⟨rfl, rfl⟩
      · cases hu
def iOk : AVal → Bool
  | .lit (.int .i64 _) => true
  | _ => false
def gdI : GD := ⟨.lit (.int .i64 0), iOk⟩

theorem gd68 {G : Nat → Option (List AVal)} (hG : GOk G) : GdOk Tryd.prog G 68 gdI := by
  intro g cap cap' H o hl hv hok hc
  refine ACall.clo ⟨_, Tryd.func68, rfl, rfl⟩ fun hcl => ?_
  refine ACall.guard (n := 7) (m := 6) (rs := [.cell 2 3, .cell 3 32]) Tryd.func68 rfl rfl rfl (by kernel_rfl) (by simp) (by decide) Tryd.func72 rfl rfl rfl (by decide) (by kernel_rfl) (by decide) (by decide) (by decide) (by decide) (by decide) (fun _ => by kernel_rfl) (fun _ _ _ => by kernel_rfl) (by decide) (by decide) (by decide) (s1 := ?s) ?_ ?_
  case s => exact ⟨putA (putA (envOf [.clo g [] cap]) (some 2) (.ptr H.next 0 0)) (some 3) (.ptr (H.next + 1) 0 0), ext H [.arr 0 3 [.lit (.int .i64 0)], .arr 0 32 [.lit (.int .i64 0)]]⟩
  · simp (config := { maxSteps := 1000000 }) only [go_sem, Int.reduceToNat, Int.reduceLE, Int.reduceLT, Int.reduceAdd, Int.reduceSub, Int.reduceMul, Int.reduceEq, Int.reduceNe, Nat.reduceEqDiff, Nat.reducePow, Nat.reduceDiv, Nat.reduceMod, Nat.reduceAdd, Nat.reduceMul, Nat.reduceSub, Nat.reduceLT, Nat.reduceLeDiff, reduceIte, reduceCtorEq, appendA_U]
  · refine vc_sound _ _ _ (by rfl) ?_
    simp (config := { maxSteps := 1000000 }) only [go_sem, Int.reduceToNat, Int.reduceLE, Int.reduceLT, Int.reduceAdd, Int.reduceSub, Int.reduceMul, Int.reduceEq, Int.reduceNe, Nat.reduceEqDiff, Nat.reducePow, Nat.reduceDiv, Nat.reduceMod, Nat.reduceAdd, Nat.reduceMul, Nat.reduceSub, Nat.reduceLT, Nat.reduceLeDiff, reduceIte, reduceCtorEq, appendA_U]
    refine AApply.clo ((ACall.frameR (args := [] ++ [] ++ cap) hG (by simpa using hl) (fun i h h' => by simpa using hv _ (fun id hid => get_ext_old H _ id hid) i (by simpa using h) h') hc).mono ?_)
    rintro r H' ⟨rfl, rfl⟩
    refine ⟨trivial, ?_⟩
    cases o with
    | none =>
      intro t v
      refine ⟨⟨putA (putA (putA (envOf [.ptr H.next 0 0, .ptr (H.next + 1) 0 0]) (some 3) (.lit (.iface t v))) (some 4) (.lit (.bool true))) (some 2) (.lit (.int .i64 0)), ext H [.arr 0 3 [.lit (.int .i64 0)], .arr 0 32 [.lit (.int .i64 0)]]⟩, 
        ⟨putA (putA (putA (putA (envOf [.ptr H.next 0 0, .ptr (H.next + 1) 0 0]) (some 3) (.lit (.iface t v))) (some 4) (.lit (.bool true))) (some 2) (.lit (.int .i64 0))) (some 5) (.lit (.int .i64 0)), ext H [.arr 0 3 [.lit (.int .i64 0)], .arr 0 32 [.lit (.int .i64 6)]]⟩, ?_, ?_, ?_⟩
      · simp (config := { maxSteps := 1000000 }) only [go_sem, Int.reduceToNat, Int.reduceLE, Int.reduceLT, Int.reduceAdd, Int.reduceSub, Int.reduceMul, Int.reduceEq, Int.reduceNe, Nat.reduceEqDiff, Nat.reducePow, Nat.reduceDiv, Nat.reduceMod, Nat.reduceAdd, Nat.reduceMul, Nat.reduceSub, Nat.reduceLT, Nat.reduceLeDiff, reduceIte, reduceCtorEq, appendA_U]
      · simp (config := { maxSteps := 1000000 }) only [go_sem, Int.reduceToNat, Int.reduceLE, Int.reduceLT, Int.reduceAdd, Int.reduceSub, Int.reduceMul, Int.reduceEq, Int.reduceNe, Nat.reduceEqDiff, Nat.reducePow, Nat.reduceDiv, Nat.reduceMod, Nat.reduceAdd, Nat.reduceMul, Nat.reduceSub, Nat.reduceLT, Nat.reduceLeDiff, reduceIte, reduceCtorEq, appendA_U]
      · simp (config := { maxSteps := 1000000 }) only [go_sem, Int.reduceToNat, Int.reduceLE, Int.reduceLT, Int.reduceAdd, Int.reduceSub, Int.reduceMul, Int.reduceEq, Int.reduceNe, Nat.reduceEqDiff, Nat.reducePow, Nat.reduceDiv, Nat.reduceMod, Nat.reduceAdd, Nat.reduceMul, Nat.reduceSub, Nat.reduceLT, Nat.reduceLeDiff, reduceIte, reduceCtorEq, appendA_U]
        exact FinV.drop hG hcl (fz_i _ _) ⟨rfl, rfl⟩
    | some u =>
      have hu := hok u rfl
      unfold gdI iOk at hu
      simp only at hu
      split at hu
      · rename_i a
        show opsV _ _ _ _ _ _ _
        simp (config := { maxSteps := 1000000 }) only [go_sem, Int.reduceToNat, Int.reduceLE, Int.reduceLT, Int.reduceAdd, Int.reduceSub, Int.reduceMul, Int.reduceEq, Int.reduceNe, Nat.reduceEqDiff, Nat.reducePow, Nat.reduceDiv, Nat.reduceMod, Nat.reduceAdd, Nat.reduceMul, Nat.reduceSub, Nat.reduceLT, Nat.reduceLeDiff, reduceIte, reduceCtorEq, guardQ, appendA_U]
        exact FinV.drop hG hcl (fz_i _ _) ⟨rfl, rfl⟩
      · cases hu
end Go.Proofs
set_option linter.unusedSimpArgs false
namespace Go.Proofs
open Go.Hx
def fact : Nat → Int
  | 0 => 1
  | n + 1 => fact n * (n + 1 : Nat)
theorem fact_pos : ∀ n, 0 < fact n
  | 0 => by decide
  | n + 1 => Int.mul_pos (fact_pos n) (by omega)
theorem fact_mono {m n : Nat} (h : m ≤ n) : fact m ≤ fact n := by
  induction n with
  | zero => have : m = 0 := by omega
            subst this; exact Int.le_refl _
  | succ n ih =>
    by_cases hm : m ≤ n
    · have := ih hm
      have h2 : fact n * 1 ≤ fact n * ((n + 1 : Nat) : Int) := Int.mul_le_mul_of_nonneg_left (by omega) (Int.le_of_lt (fact_pos n))
      have h3 : fact (n + 1) = fact n * ((n + 1 : Nat) : Int) := rfl
      omega
    · have : m = n + 1 := by omega
      subst this; exact Int.le_refl _
theorem fact_20 : fact 20 = 2432902008176640000 := by decide
/-- The laid table. -/
def factL : List Int := [1, 1, 2, 6, 24, 120, 720, 5040, 40320, 362880, 3628800, 39916800, 479001600, 6227020800, 87178291200, 1307674368000, 20922789888000, 355687428096000, 6402373705728000, 121645100408832000, 2432902008176640000]
theorem factL_eq : factL = (List.range 21).map fact := by decide
theorem factL_get {n : Nat} (h : n ≤ 20) : factL[n]? = some (fact n) := by
  rw [factL_eq, List.getElem?_map, List.getElem?_range (by omega)]; rfl
def G0 : Nat → Option (List AVal) := fun g => if g = 0 then some (ints factL) else none
theorem G0_ok : GOk G0 := fun g cells h => by
  unfold G0 at h
  split at h
  · cases h
    refine .vptr fun i hi => ?_
    simp only [ints, List.getElem_map]
    exact .lit _
  · cases h
theorem evA_g0 (ρ : Env) : evA G0 ρ (.global 0) = .vptr (ints factL) 0 := rfl
def vecV (l : List (List Int)) : AVal := .vec l.length (l.map vecI)
theorem vecV_cells (l : List (List Int)) : (vecV l).cells = [vecV l] := rfl
theorem vecV_one (l : List (List Int)) : (vecV l).one = true := rfl

def rowOk (n : Nat) (r : List Int) : Prop := r.length = n ∧ 2 ≤ r.length ∧ r.length ≤ 3 ∧ ∀ c, c ∈ r → 0 ≤ c ∧ c ≤ 20
def total2 (t : List (List Int)) : Int := (t.map List.sum).sum
def TableOk (t : List (List Int)) : Prop := 2 ≤ t.length ∧ t.length ≤ 3 ∧ (∀ r, r ∈ t → rowOk (t.headD []).length r) ∧ 1 ≤ total2 t ∧ total2 t ≤ 20
instance (n : Nat) (r : List Int) : Decidable (rowOk n r) := by unfold rowOk; infer_instance
instance (t : List (List Int)) : Decidable (TableOk t) := by unfold TableOk; infer_instance

theorem sum_bound : ∀ {l : List Int} {n : Nat}, (∀ c, c ∈ l → 0 ≤ c ∧ c ≤ 20) → l.length ≤ n → 0 ≤ l.sum ∧ l.sum ≤ 20 * n := by
  intro l
  induction l with
  | nil => intro n _ _; simp; omega
  | cons a l ih =>
    intro n h hn
    obtain ⟨n, rfl⟩ : ∃ m, n = m + 1 := ⟨n - 1, by simp at hn; omega⟩
    have := ih (fun c hc => h c (by simp [hc])) (by simpa using hn)
    have := h a (by simp)
    simp only [List.sum_cons]
    omega
theorem total2_bound {n : Nat} : ∀ {t : List (List Int)} {k m : Nat}, (∀ r, r ∈ t.take k → rowOk n r) → k ≤ m → 0 ≤ total2 (t.take k) ∧ total2 (t.take k) ≤ 60 * m := by
  intro t
  induction t with
  | nil => intro k m _ _; simp [total2]; omega
  | cons r t ih =>
    intro k m h hk
    cases k with
    | zero => simp [total2]; omega
    | succ k =>
      obtain ⟨m, rfl⟩ : ∃ p, m = p + 1 := ⟨m - 1, by omega⟩
      have h1 := ih (fun r hr => h r (by simp [hr])) (by omega : k ≤ m)
      have h2 := h r (by simp)
      have h3 := sum_bound h2.2.2.2 h2.2.2.1
      simp only [total2, List.take_succ_cons, List.map_cons, List.sum_cons] at h1 ⊢
      omega
theorem take_succ_of {α : Type} {l : List α} {k : Nat} {a : α} (h : l[k]? = some a) : l.take (k + 1) = l.take k ++ [a] := by
  rw [List.take_add_one, h]; rfl
theorem setAt_ints {l : List Int} {k : Nat} (v : Int) (h : k < l.length) : setAt (ints l) k [.lit (.int .i64 v)] = ints (l.set k v) := by
  unfold setAt ints
  rw [List.map_set, List.set_eq_take_append_cons_drop, if_pos (by simpa using h)]
  simp [lin]
theorem getD_set {l : List Int} {k : Nat} {v : Int} (i : Nat) (h : k < l.length) : (l.set k v).getD i 0 = if i = k then v else l.getD i 0 := by
  simp only [List.getD_eq_getElem?_getD]
  by_cases hi : i = k
  · subst hi; simp [h]
  · rw [List.getElem?_set_ne (by omega), if_neg hi]
theorem getD_some {α : Type} {l : List α} {k : Nat} {a d : α} (h : l[k]? = some a) : l.getD k d = a := by rw [List.getD_eq_getElem?_getD, h]; rfl
theorem eq_of_getD {l l' : List Int} (h : l.length = l'.length) (hd : ∀ i, i < l.length → l.getD i 0 = l'.getD i 0) : l = l' := by
  refine List.ext_getElem h fun i h1 h2 => ?_
  have := hd i h1
  simpa [List.getD_eq_getElem?_getD, List.getElem?_eq_getElem h1, List.getElem?_eq_getElem h2] using this
theorem take_sum_succ {r : List Int} {j : Nat} {c : Int} (h : r[j]? = some c) : (r.take (j + 1)).sum = (r.take j).sum + c := by
  rw [take_succ_of h]; simp
theorem get_ext0 (H : AHeap) (b : Blk) (L : List Blk) : (ext H (b :: L)).get H.next = some b := get_ext H (b :: L) 0 (by simp)
theorem ints_take (l : List Int) (n : Nat) : (ints l).take n = ints (l.take n) := by simp [ints]
theorem ints_drop (l : List Int) (n : Nat) : (ints l).drop n = ints (l.drop n) := by simp [ints]
/-- A factorial, divided by others one by one. -/
def quoF (x : Int) (l : List Int) : Int := l.foldl (fun x c => x.tdiv (fact c.toNat)) x
theorem tdiv_bound {x f : Int} (hx : 0 ≤ x) (hf : 0 < f) : 0 ≤ x.tdiv f ∧ x.tdiv f ≤ x := by
  rw [Int.tdiv_eq_ediv_of_nonneg hx]
  exact ⟨Int.ediv_nonneg hx (by omega), Int.ediv_le_self _ hx⟩
theorem quoF_bound : ∀ {l : List Int} {x : Int}, 0 ≤ x → 0 ≤ quoF x l ∧ quoF x l ≤ x := by
  intro l
  induction l with
  | nil => intro x hx; exact ⟨hx, Int.le_refl _⟩
  | cons c l ih =>
    intro x hx
    have h1 := tdiv_bound hx (fact_pos c.toNat)
    have h2 := ih h1.1
    exact ⟨h2.1, Int.le_trans h2.2 h1.2⟩
theorem quoF_succ {l : List Int} {k : Nat} {c x : Int} (h : l[k]? = some c) : quoF x (l.take (k + 1)) = (quoF x (l.take k)).tdiv (fact c.toNat) := by
  rw [take_succ_of h]; simp [quoF]
def overI (s : Int) (l : List Int) : Int := quoF (fact s.toNat) l
theorem sum_nonneg : ∀ {l : List Int}, (∀ c, c ∈ l → 0 ≤ c) → 0 ≤ l.sum
  | [], _ => by simp
  | a :: l, h => by
    have := sum_nonneg (l := l) fun c hc => h c (by simp [hc])
    have := h a (by simp)
    simp only [List.sum_cons]; omega
theorem le_sum : ∀ {l : List Int}, (∀ c, c ∈ l → 0 ≤ c) → ∀ c, c ∈ l → c ≤ l.sum
  | [], _, _, h => by cases h
  | a :: l, h, c, hc => by
    have h1 := sum_nonneg (l := l) fun c hc => h c (by simp [hc])
    have h2 := h a (by simp)
    simp only [List.sum_cons]
    rcases List.mem_cons.1 hc with rfl | hc
    · omega
    · have := le_sum (l := l) (fun c hc => h c (by simp [hc])) c hc; omega
theorem take_sum_le {l : List Int} (h : ∀ c, c ∈ l → 0 ≤ c) (k : Nat) : 0 ≤ (l.take k).sum ∧ (l.take k).sum ≤ l.sum := by
  have h1 : l.sum = (l.take k).sum + (l.drop k).sum := by rw [← List.sum_append, List.take_append_drop]
  have h2 := sum_nonneg (l := l.take k) fun c hc => h c (List.mem_of_mem_take hc)
  have h3 := sum_nonneg (l := l.drop k) fun c hc => h c (List.mem_of_mem_drop hc)
  omega
end Go.Proofs
/-
  The chapter's examples: works() returns true. The call is reckoned out by an evaluator that is proved right. No conditions.
-/
set_option linter.unusedSimpArgs false
namespace Go.Proofs
open Go.Hx
set_option maxRecDepth 100000
def gdT : FuncId → Option GD := fun f => bif Nat.beq f 61 then some gdQ else bif Nat.beq f 68 then some gdI else none
theorem gdT_ok : ∀ f z, gdT f = some z → GdOk Tryd.prog G0 f z := by
  intro f z h
  unfold gdT at h
  cases h1 : Nat.beq f 61 with
  | true =>
    rw [h1] at h
    have e := Nat.eq_of_beq_eq_true h1
    subst e
    cases h
    exact gd61 G0_ok
  | false =>
    rw [h1] at h
    cases h2 : Nat.beq f 68 with
    | true =>
      rw [h2] at h
      have e := Nat.eq_of_beq_eq_true h2
      subst e
      cases h
      exact gd68 G0_ok
    | false => rw [h2] at h; cases h
noncomputable def Tryd.epW : EP := { P := Tryd.prog, G := G0, gd := gdT, known := knownOf [] }
theorem Tryd.epW_ok : EOk Tryd.epW := .of_known (l := []) rfl G0_ok Tryd.mixed gdT_ok trivial
theorem Tryd.works_chk : chk Tryd.epW 1000000 10 [] (.lit (.bool true)) = true := by kernel_rfl
def WorksOk : Prop := ∀ (H : AHeap) (K : ARes → AHeap → Prop), K (.ret (.lit (.bool true))) H → ACall Tryd.prog G0 10 [] H K
theorem works_ok : WorksOk := fun H K hK =>
  (ACall.frame (args' := []) G0_ok rfl (fun i h _ => absurd h (Nat.not_lt_zero _)) (chk_ok Tryd.epW_ok Tryd.works_chk)).mono fun r H' ⟨h1, h2⟩ => by rw [h1, h2]; exact hK
end Go.Proofs
