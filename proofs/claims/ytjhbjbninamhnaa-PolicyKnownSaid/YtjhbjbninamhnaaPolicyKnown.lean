/-
  PolicyKnown returns true: the call is reckoned out by an evaluator that is proved right. No conditions.
-/
import Derived.Test.YtjhbjbninamhnaaRows
import Derived.Test.YtjhbjbninamhnaaConA
import Derived.ProofKit
set_option linter.all false
namespace Go.Proofs.Ytjhbjbninamhnaa
open Go.ChangeShapes Go.WideShapes Go.ChangeAt Go.RowKit Go.Hx

theorem Try.own : ownKnob Try.prog.godebug = none := by kernel_rfl
theorem Try.laidOut : laidOutB Try.prog = true := by kernel_rfl
theorem Try.boolT : Try.prog.underlying 4 = some .bool := by kernel_rfl
theorem Try.main3 : chk Try.epMain 1000000 3 [] (.lit (.bool true)) = true := by kernel_rfl
theorem Try.known3 : ACall Try.prog noGl 3 [] noH fun r H' => ∃ u, r = .ret u ∧ Fresh H' u (.lit (.bool true)) := chk_ok Try.epMain_ok Try.main3

set_option maxRecDepth 100000 in
theorem policyKnown_lifted (os : Os) (started : os.Started) (H : Type) (enc : TypeId × Value → H) :
    ReturnsInHanded {} Try.checked os 3 .any (Rows.policyKnownSpec.pre6 enc Try.prog Try.f3 Rows.policyKnownRow.domain false) (Rows.policyKnownSpec.post enc Try.prog Try.f3 false true false false) := by
  refine returnsInHanded_of_change (C := Try.checked) Try.own started (by kernel_rfl) Try.func3
    (ChangeSpec.witness6 (enc := enc) (C := Try.checked) false ⟨#[], #[], []⟩ 8 (by kernel_rfl) (by kernel_rfl) (by kernel_rfl) (by kernel_rfl)) ?_
  intro W base args ds gs before hval0 hW hcnd _
  have hW' := hW
  obtain ⟨p, q, hA0, hV, rfl, hfz, hnd⟩ := hW
  have hA : DataW.TrodAll enc Try.prog W 0 (fun _ => true) true Try.f3.params.toList args.toList ds p := hA0
  rw [Try.params3] at hA
  obtain ⟨rfl, rfl, rfl⟩ := trodAll_none hA
  refine (calls_true Try.known3 (noGl_glob W) ⟨rfl, fun i h _ => absurd h (Nat.not_lt_zero _)⟩).mono fun e W' ⟨he, hb, hz⟩ => ?_
  subst he
  exact ⟨_, rfl, law_post Try.laidOut (by rw [Try.params3]; rfl) rfl (by kernel_rfl) Try.boolT (fun ds hd => by rw [Try.params3] at hd; obtain rfl := List.eq_nil_of_length_eq_zero hd; rfl) hW' hb hz⟩

theorem policyKnown_holds : Rows.PolicyKnownSaid :=
  OpenClaim.holds_of_wide 3 Try.f3 rfl rfl rfl rfl rfl rfl rfl ⟨rfl, rfl, rfl, rfl, rfl⟩ rfl rfl rfl rfl rfl (by kernel_rfl) Try.func3 (by kernel_rfl)
    (of_decide_eq_true (by kernel_rfl)) (by unfold Func.isWrapper; first | (rw [if_pos (by decide +kernel)]; kernel_rfl) | (rw [if_neg (by decide +kernel)]; exact ⟨rfl, rfl⟩))
    (fun os started H enc _ => policyKnown_lifted os started H enc)
end Go.Proofs.Ytjhbjbninamhnaa
