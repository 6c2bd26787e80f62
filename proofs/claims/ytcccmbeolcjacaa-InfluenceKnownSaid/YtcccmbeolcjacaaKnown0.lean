/-
  Calls of this seat's program, reckoned out by the evaluator: what each of them gives. Laid by a program of ours.
-/
import Derived.Test.YtcccmbeolcjacaaProg
import Derived.Test.YtcccmbeolcjacaaHxZt
namespace Go.Proofs
open Go.Hx
set_option maxRecDepth 100000
theorem Try.mixedK : Try.prog.follows .mixedOrders = true := by kernel_rfl
noncomputable def Try.ep0 : EP := { P := Try.prog, G := noGl, gd := fun _ => none, known := knownOf [] }
theorem Try.ep0_ok : EOk Try.ep0 := .of_known (l := []) rfl noGl_ok Try.mixedK (fun _ _ h => by cases h) trivial
def Try.ka11_0 : List AVal := [.agg [.lit (.int .i64 1), .vec 6 [.lit (.int .i64 2), .lit (.slice none 0 0), .vec 1 [.vec 2 [.lit (.int .i64 1), .lit (.int .i64 0)]], .lit (.int .i64 2), .lit (.slice none 0 0), .vec 1 [.vec 2 [.lit (.int .i64 1), .lit (.int .i64 0)]], .lit (.int .i64 2), .lit (.slice none 0 0), .vec 1 [.vec 2 [.lit (.int .i64 1), .lit (.int .i64 0)]], .lit (.int .i64 2), .vec 3 [.lit (.int .i64 0), .lit (.int .i64 1), .lit (.int .i64 2)], .lit (.slice none 0 0), .lit (.int .i64 2), .vec 1 [.lit (.int .i64 0)], .lit (.slice none 0 0), .lit (.int .i64 2), .vec 1 [.lit (.int .i64 1)], .lit (.slice none 0 0)], .lit (.int .u64 56), .lit (.slice none 0 0)]]
def Try.kv11_0 : AVal := .lit (.int .i64 0)
theorem Try.kc11_0 : chk Try.ep0 1000000 11 Try.ka11_0 Try.kv11_0 = true := by kernel_rfl
def Try.ka11_1 : List AVal := [.agg [.lit (.int .i64 1), .vec 7 [.lit (.int .i64 2), .lit (.slice none 0 0), .vec 1 [.vec 2 [.lit (.int .i64 1), .lit (.int .i64 0)]], .lit (.int .i64 2), .lit (.slice none 0 0), .vec 1 [.vec 2 [.lit (.int .i64 1), .lit (.int .i64 0)]], .lit (.int .i64 2), .lit (.slice none 0 0), .vec 1 [.vec 2 [.lit (.int .i64 1), .lit (.int .i64 0)]], .lit (.int .i64 2), .vec 3 [.lit (.int .i64 0), .lit (.int .i64 1), .lit (.int .i64 2)], .lit (.slice none 0 0), .lit (.int .i64 2), .vec 1 [.lit (.int .i64 0)], .lit (.slice none 0 0), .lit (.int .i64 2), .vec 1 [.lit (.int .i64 1)], .lit (.slice none 0 0), .lit (.int .i64 2), .lit (.slice none 0 0), .lit (.slice none 0 0)], .lit (.int .u64 120), .lit (.slice none 0 0)]]
def Try.kv11_1 : AVal := .lit (.int .i64 0)
theorem Try.kc11_1 : chk Try.ep0 1000000 11 Try.ka11_1 Try.kv11_1 = true := by kernel_rfl
def Try.ka11_2 : List AVal := [.agg [.lit (.int .i64 60), .vec 1 [.lit (.int .i64 1), .lit (.slice none 0 0), .vec 1 [.vec 1 [.lit (.int .i64 60)]]], .lit (.int .u64 0), .lit (.slice none 0 0)]]
def Try.kv11_2 : AVal := .lit (.int .i64 0)
theorem Try.kc11_2 : chk Try.ep0 1000000 11 Try.ka11_2 Try.kv11_2 = true := by kernel_rfl
def Try.ka11_3 : List AVal := [.agg [.lit (.int .i64 60), .vec 1 [.lit (.int .i64 1), .lit (.slice none 0 0), .vec 1 [.vec 1 [.lit (.int .i64 60)]]], .lit (.int .u64 0), .vec 4 [.lit (.slice none 0 0), .vec 1 [.lit (.int .i64 100)], .lit (.slice none 0 0), .vec 1 [.lit (.int .i64 100)], .lit (.slice none 0 0), .vec 1 [.lit (.int .i64 100)], .lit (.slice none 0 0), .vec 1 [.lit (.int .i64 100)]]]]
def Try.kv11_3 : AVal := .lit (.int .i64 0)
theorem Try.kc11_3 : chk Try.ep0 1000000 11 Try.ka11_3 Try.kv11_3 = true := by kernel_rfl
def Try.ka11_4 : List AVal := [.agg [.lit (.int .i64 0), .lit (.slice none 0 0), .lit (.int .u64 0), .lit (.slice none 0 0)]]
def Try.kv11_4 : AVal := .lit (.int .i64 200)
theorem Try.kc11_4 : chk Try.ep0 1000000 11 Try.ka11_4 Try.kv11_4 = true := by kernel_rfl
def Try.ka11_5 : List AVal := [.agg [.lit (.int .i64 4), .vec 3 [.lit (.int .i64 2), .lit (.slice none 0 0), .vec 1 [.vec 2 [.lit (.int .i64 1), .lit (.int .i64 3)]], .lit (.int .i64 2), .vec 1 [.lit (.int .i64 0)], .lit (.slice none 0 0), .lit (.int .i64 2), .vec 2 [.lit (.int .i64 0), .lit (.int .i64 1)], .vec 4 [.vec 2 [.lit (.int .i64 4), .lit (.int .i64 0)], .vec 2 [.lit (.int .i64 2), .lit (.int .i64 2)], .vec 2 [.lit (.int .i64 0), .lit (.int .i64 4)], .vec 2 [.lit (.int .i64 1), .lit (.int .i64 3)]]], .lit (.int .u64 2), .vec 1 [.vec 2 [.lit (.int .i64 1), .lit (.int .i64 2)], .vec 4 [.lit (.int .i64 0), .lit (.int .i64 10), .lit (.int .i64 (-2)), .lit (.int .i64 8)]]]]
def Try.kv11_5 : AVal := .lit (.int .i64 0)
theorem Try.kc11_5 : chk Try.ep0 1000000 11 Try.ka11_5 Try.kv11_5 = true := by kernel_rfl
def Try.ka11_6 : List AVal := [.agg [.lit (.int .i64 4), .vec 3 [.lit (.int .i64 2), .lit (.slice none 0 0), .vec 1 [.vec 2 [.lit (.int .i64 1), .lit (.int .i64 3)]], .lit (.int .i64 2), .vec 1 [.lit (.int .i64 0)], .vec 2 [.vec 2 [.lit (.int .i64 4), .lit (.int .i64 0)], .vec 2 [.lit (.int .i64 4), .lit (.int .i64 0)]], .lit (.int .i64 2), .vec 2 [.lit (.int .i64 0), .lit (.int .i64 1)], .vec 4 [.vec 2 [.lit (.int .i64 4), .lit (.int .i64 0)], .vec 2 [.lit (.int .i64 2), .lit (.int .i64 2)], .vec 2 [.lit (.int .i64 0), .lit (.int .i64 4)], .vec 2 [.lit (.int .i64 1), .lit (.int .i64 3)]]], .lit (.int .u64 2), .vec 1 [.vec 2 [.lit (.int .i64 1), .lit (.int .i64 2)], .vec 4 [.lit (.int .i64 0), .lit (.int .i64 10), .lit (.int .i64 (-2)), .lit (.int .i64 8)]]]]
def Try.kv11_6 : AVal := .lit (.int .i64 200)
theorem Try.kc11_6 : chk Try.ep0 1000000 11 Try.ka11_6 Try.kv11_6 = true := by kernel_rfl
def Try.ka11_7 : List AVal := [.agg [.lit (.int .i64 4), .vec 3 [.lit (.int .i64 2), .lit (.slice none 0 0), .vec 1 [.vec 2 [.lit (.int .i64 1), .lit (.int .i64 3)]], .lit (.int .i64 2), .vec 1 [.lit (.int .i64 0)], .lit (.slice none 0 0), .lit (.int .i64 2), .vec 2 [.lit (.int .i64 0), .lit (.int .i64 1)], .vec 4 [.vec 2 [.lit (.int .i64 4), .lit (.int .i64 0)], .vec 2 [.lit (.int .i64 2), .lit (.int .i64 2)], .vec 2 [.lit (.int .i64 0), .lit (.int .i64 4)], .vec 2 [.lit (.int .i64 1), .lit (.int .i64 3)]]], .lit (.int .u64 2), .vec 1 [.vec 2 [.lit (.int .i64 1), .lit (.int .i64 2)], .vec 3 [.lit (.int .i64 0), .lit (.int .i64 10), .lit (.int .i64 (-2))]]]]
def Try.kv11_7 : AVal := .lit (.int .i64 200)
theorem Try.kc11_7 : chk Try.ep0 1000000 11 Try.ka11_7 Try.kv11_7 = true := by kernel_rfl
def Try.ka11_8 : List AVal := [.agg [.lit (.int .i64 4), .vec 3 [.lit (.int .i64 2), .lit (.slice none 0 0), .vec 1 [.vec 2 [.lit (.int .i64 1), .lit (.int .i64 3)]], .lit (.int .i64 2), .vec 1 [.lit (.int .i64 0)], .lit (.slice none 0 0), .lit (.int .i64 2), .vec 2 [.lit (.int .i64 0), .lit (.int .i64 1)], .vec 4 [.vec 2 [.lit (.int .i64 4), .lit (.int .i64 0)], .vec 2 [.lit (.int .i64 2), .lit (.int .i64 2)], .vec 2 [.lit (.int .i64 0), .lit (.int .i64 4)], .vec 2 [.lit (.int .i64 1), .lit (.int .i64 3)]]], .lit (.int .u64 2), .vec 1 [.vec 2 [.lit (.int .i64 1), .lit (.int .i64 2)], .vec 4 [.lit (.int .i64 101), .lit (.int .i64 10), .lit (.int .i64 (-2)), .lit (.int .i64 8)]]]]
def Try.kv11_8 : AVal := .lit (.int .i64 200)
theorem Try.kc11_8 : chk Try.ep0 1000000 11 Try.ka11_8 Try.kv11_8 = true := by kernel_rfl
def Try.ka11_9 : List AVal := [.agg [.lit (.int .i64 4), .vec 3 [.lit (.int .i64 2), .lit (.slice none 0 0), .vec 1 [.vec 2 [.lit (.int .i64 1), .lit (.int .i64 3)]], .lit (.int .i64 2), .vec 1 [.lit (.int .i64 0)], .lit (.slice none 0 0), .lit (.int .i64 2), .vec 2 [.lit (.int .i64 0), .lit (.int .i64 1)], .vec 4 [.vec 2 [.lit (.int .i64 4), .lit (.int .i64 0)], .vec 2 [.lit (.int .i64 2), .lit (.int .i64 2)], .vec 2 [.lit (.int .i64 0), .lit (.int .i64 4)], .vec 2 [.lit (.int .i64 1), .lit (.int .i64 3)]]], .lit (.int .u64 2), .vec 1 [.vec 2 [.lit (.int .i64 2), .lit (.int .i64 1)], .vec 4 [.lit (.int .i64 0), .lit (.int .i64 10), .lit (.int .i64 (-2)), .lit (.int .i64 8)]]]]
def Try.kv11_9 : AVal := .lit (.int .i64 200)
theorem Try.kc11_9 : chk Try.ep0 1000000 11 Try.ka11_9 Try.kv11_9 = true := by kernel_rfl
def Try.ka11_10 : List AVal := [.agg [.lit (.int .i64 60), .vec 1 [.lit (.int .i64 1), .lit (.slice none 0 0), .vec 1 [.vec 1 [.lit (.int .i64 60)]]], .lit (.int .u64 0), .vec 5 [.lit (.slice none 0 0), .vec 1 [.lit (.int .i64 100)], .lit (.slice none 0 0), .vec 1 [.lit (.int .i64 100)], .lit (.slice none 0 0), .vec 1 [.lit (.int .i64 100)], .lit (.slice none 0 0), .vec 1 [.lit (.int .i64 100)], .lit (.slice none 0 0), .vec 1 [.lit (.int .i64 0)]]]]
def Try.kv11_10 : AVal := .lit (.int .i64 200)
theorem Try.kc11_10 : chk Try.ep0 1000000 11 Try.ka11_10 Try.kv11_10 = true := by kernel_rfl
def Try.ka11_11 : List AVal := [.agg [.lit (.int .i64 1), .vec 2 [.lit (.int .i64 2), .vec 1 [.lit (.int .i64 1)], .lit (.slice none 0 0), .lit (.int .i64 2), .vec 1 [.lit (.int .i64 0)], .lit (.slice none 0 0)], .lit (.int .u64 3), .lit (.slice none 0 0)]]
def Try.kv11_11 : AVal := .lit (.int .i64 200)
theorem Try.kc11_11 : chk Try.ep0 1000000 11 Try.ka11_11 Try.kv11_11 = true := by kernel_rfl
def Try.ka11_12 : List AVal := [.agg [.lit (.int .i64 1), .vec 1 [.lit (.int .i64 2), .lit (.slice none 0 0), .lit (.slice none 0 0)], .lit (.int .u64 3), .lit (.slice none 0 0)]]
def Try.kv11_12 : AVal := .lit (.int .i64 200)
theorem Try.kc11_12 : chk Try.ep0 1000000 11 Try.ka11_12 Try.kv11_12 = true := by kernel_rfl
def Try.ka11_13 : List AVal := [.agg [.lit (.int .i64 61), .vec 1 [.lit (.int .i64 2), .lit (.slice none 0 0), .lit (.slice none 0 0)], .lit (.int .u64 1), .lit (.slice none 0 0)]]
def Try.kv11_13 : AVal := .lit (.int .i64 200)
theorem Try.kc11_13 : chk Try.ep0 1000000 11 Try.ka11_13 Try.kv11_13 = true := by kernel_rfl
def Try.ka11_14 : List AVal := [.agg [.lit (.int .i64 1), .vec 1 [.lit (.int .i64 5), .lit (.slice none 0 0), .lit (.slice none 0 0)], .lit (.int .u64 1), .lit (.slice none 0 0)]]
def Try.kv11_14 : AVal := .lit (.int .i64 200)
theorem Try.kc11_14 : chk Try.ep0 1000000 11 Try.ka11_14 Try.kv11_14 = true := by kernel_rfl
def Try.ka11_15 : List AVal := [.agg [.lit (.int .i64 1), .vec 1 [.lit (.int .i64 4), .lit (.slice none 0 0), .lit (.slice none 0 0)], .lit (.int .u64 1), .lit (.slice none 0 0)]]
def Try.kv11_15 : AVal := .lit (.int .i64 0)
theorem Try.kc11_15 : chk Try.ep0 1000000 11 Try.ka11_15 Try.kv11_15 = true := by kernel_rfl
def Try.ka11_16 : List AVal := [.agg [.lit (.int .i64 1), .vec 1 [.lit (.int .i64 2), .lit (.slice none 0 0), .lit (.slice none 0 0)], .lit (.int .u64 0), .lit (.slice none 0 0)]]
def Try.kv11_16 : AVal := .lit (.int .i64 200)
theorem Try.kc11_16 : chk Try.ep0 1000000 11 Try.ka11_16 Try.kv11_16 = true := by kernel_rfl
def Try.kn11 : KTab := [(Try.ka11_0, Try.kv11_0), (Try.ka11_1, Try.kv11_1), (Try.ka11_2, Try.kv11_2), (Try.ka11_3, Try.kv11_3), (Try.ka11_4, Try.kv11_4), (Try.ka11_5, Try.kv11_5), (Try.ka11_6, Try.kv11_6), (Try.ka11_7, Try.kv11_7), (Try.ka11_8, Try.kv11_8), (Try.ka11_9, Try.kv11_9), (Try.ka11_10, Try.kv11_10), (Try.ka11_11, Try.kv11_11), (Try.ka11_12, Try.kv11_12), (Try.ka11_13, Try.kv11_13), (Try.ka11_14, Try.kv11_14), (Try.ka11_15, Try.kv11_15), (Try.ka11_16, Try.kv11_16)]
theorem Try.kn11_ok : KOk Try.prog noGl 11 Try.kn11 := .cons (chk_ok Try.ep0_ok Try.kc11_0) (.cons (chk_ok Try.ep0_ok Try.kc11_1) (.cons (chk_ok Try.ep0_ok Try.kc11_2) (.cons (chk_ok Try.ep0_ok Try.kc11_3) (.cons (chk_ok Try.ep0_ok Try.kc11_4) (.cons (chk_ok Try.ep0_ok Try.kc11_5) (.cons (chk_ok Try.ep0_ok Try.kc11_6) (.cons (chk_ok Try.ep0_ok Try.kc11_7) (.cons (chk_ok Try.ep0_ok Try.kc11_8) (.cons (chk_ok Try.ep0_ok Try.kc11_9) (.cons (chk_ok Try.ep0_ok Try.kc11_10) (.cons (chk_ok Try.ep0_ok Try.kc11_11) (.cons (chk_ok Try.ep0_ok Try.kc11_12) (.cons (chk_ok Try.ep0_ok Try.kc11_13) (.cons (chk_ok Try.ep0_ok Try.kc11_14) (.cons (chk_ok Try.ep0_ok Try.kc11_15) (.cons (chk_ok Try.ep0_ok Try.kc11_16) .nil))))))))))))))))
noncomputable def Try.ep1 : EP := { P := Try.prog, G := noGl, gd := fun _ => none, known := knownOf [(11, Try.kn11)] }
theorem Try.ep1_ok : EOk Try.ep1 := .of_known (l := [(11, Try.kn11)]) rfl noGl_ok Try.mixedK (fun _ _ h => by cases h) ⟨Try.kn11_ok, trivial⟩
def Try.ka18_0 : List AVal := []
def Try.kv18_0 : AVal := .lit (.bool true)
theorem Try.kc18_0 : chk Try.ep1 1000000 18 Try.ka18_0 Try.kv18_0 = true := by kernel_rfl
def Try.kn18 : KTab := [(Try.ka18_0, Try.kv18_0)]
theorem Try.kn18_ok : KOk Try.prog noGl 18 Try.kn18 := .cons (chk_ok Try.ep1_ok Try.kc18_0) .nil
noncomputable def Try.ep2 : EP := { P := Try.prog, G := noGl, gd := fun _ => none, known := knownOf [(11, Try.kn11), (18, Try.kn18)] }
theorem Try.ep2_ok : EOk Try.ep2 := .of_known (l := [(11, Try.kn11), (18, Try.kn18)]) rfl noGl_ok Try.mixedK (fun _ _ h => by cases h) ⟨Try.kn11_ok, ⟨Try.kn18_ok, trivial⟩⟩
def Try.kn6 : KTab := []
theorem Try.kn6_ok : KOk Try.prog noGl 6 Try.kn6 := .nil
theorem Try.main6 : chk Try.ep2 1000000 6 [] (.lit (.bool true)) = true := by kernel_rfl
theorem Try.known6 : ACall Try.prog noGl 6 [] noH fun r H' => ∃ u, r = .ret u ∧ Fresh H' u (.lit (.bool true)) := chk_ok Try.ep2_ok Try.main6
end Go.Proofs
