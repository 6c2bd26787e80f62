/-
  ExpectKnown returns true: the call is reckoned out by an evaluator that is proved right. No conditions.
-/
import Derived.Test.YtakancljiekbhaaRows
import Derived.Test.YtakancljiekbhaaConA
import Derived.ProofKit
set_option linter.all false
namespace Go.Proofs.Ytakancljiekbhaa
open Go.ChangeShapes Go.WideShapes Go.ChangeAt Go.RowKit Go.Hx

set_option maxRecDepth 100000
theorem Try.own : ownKnob Try.prog.godebug = none := by kernel_rfl
theorem Try.laidOut : laidOutB Try.prog = true := by kernel_rfl
theorem Try.boolT : Try.prog.underlying 4 = some .bool := by kernel_rfl
theorem Try.main6 : chk Try.epMain 1000000 6 [] (.lit (.bool true)) = true := by kernel_rfl
theorem Try.known6 : ACall Try.prog noGl 6 [] noH fun r H' => ∃ u, r = .ret u ∧ Fresh H' u (.lit (.bool true)) := chk_ok Try.epMain_ok Try.main6

set_option maxRecDepth 100000 in
theorem expectKnown_lifted (os : Os) (started : os.Started) (H : Type) (enc : TypeId × Value → H) :
    ReturnsInHanded {} Try.checked os 6 .any (Rows.expectKnownSpec.pre6 enc Try.prog Try.f6 Rows.expectKnownRow.domain false) (Rows.expectKnownSpec.post enc Try.prog Try.f6 false true false false) := by
  refine returnsInHanded_of_change (C := Try.checked) Try.own started (by kernel_rfl) Try.func6
    (ChangeSpec.witness6 (enc := enc) (C := Try.checked) false ⟨#[], #[], []⟩ 8 (by kernel_rfl) (by kernel_rfl) (by kernel_rfl) (by kernel_rfl)) ?_
  intro W base args ds gs before hval0 hW hcnd _
  have hW' := hW
  obtain ⟨p, q, hA0, hV, rfl, hfz, hnd⟩ := hW
  have hA : DataW.TrodAll enc Try.prog W 0 (fun _ => true) true Try.f6.params.toList args.toList ds p := hA0
  rw [Try.params6] at hA
  obtain ⟨rfl, rfl, rfl⟩ := trodAll_none hA
  refine (calls_true Try.known6 (noGl_glob W) ⟨rfl, fun i h _ => absurd h (Nat.not_lt_zero _)⟩).mono fun e W' ⟨he, hb, hz⟩ => ?_
  subst he
  exact ⟨_, rfl, law_post Try.laidOut (by rw [Try.params6]; rfl) rfl (by kernel_rfl) Try.boolT (fun ds hd => by rw [Try.params6] at hd; obtain rfl := List.eq_nil_of_length_eq_zero hd; rfl) hW' hb hz⟩

theorem expectKnown_holds : Rows.ExpectKnownSaid :=
  OpenClaim.holds_of_wide 6 Try.f6 rfl rfl rfl rfl rfl rfl rfl ⟨rfl, rfl, rfl, rfl, rfl⟩ rfl rfl rfl rfl rfl (by kernel_rfl) Try.func6 (by kernel_rfl)
    (of_decide_eq_true (by kernel_rfl)) (by unfold Func.isWrapper; first | (rw [if_pos (by decide +kernel)]; kernel_rfl) | (rw [if_neg (by decide +kernel)]; exact ⟨rfl, rfl⟩))
    (fun os started H enc _ => expectKnown_lifted os started H enc)
end Go.Proofs.Ytakancljiekbhaa
