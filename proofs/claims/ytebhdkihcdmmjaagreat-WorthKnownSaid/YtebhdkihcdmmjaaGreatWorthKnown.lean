/-
  WorthKnown returns true: the call is reckoned out by an evaluator that is proved right. No conditions.
-/
import Derived.Test.YtebhdkihcdmmjaaGreatRows
import Derived.Test.YtebhdkihcdmmjaaGreatConA
import Derived.ProofKit
set_option linter.all false
namespace Go.Proofs.YtebhdkihcdmmjaaGreat
open Go.ChangeShapes Go.WideShapes Go.ChangeAt Go.RowKit Go.Hx

set_option maxRecDepth 100000
theorem Tryz.own : ownKnob Tryz.prog.godebug = none := by kernel_rfl
theorem Tryz.laidOut : laidOutB Tryz.prog = true := by kernel_rfl
theorem Tryz.boolT : Tryz.prog.underlying 4 = some .bool := by kernel_rfl
theorem Tryz.main9 : chk Tryz.epMain 1000000 9 [] (.lit (.bool true)) = true := by kernel_rfl
theorem Tryz.known9 : ACall Tryz.prog noGl 9 [] noH fun r H' => ∃ u, r = .ret u ∧ Fresh H' u (.lit (.bool true)) := chk_ok Tryz.epMain_ok Tryz.main9

set_option maxRecDepth 100000 in
theorem worthKnown_lifted (os : Os) (started : os.Started) (H : Type) (enc : TypeId × Value → H) :
    ReturnsInHanded {} Tryz.checked os 9 .any (Rows.worthKnownSpec.pre6 enc Tryz.prog Tryz.f9 Rows.worthKnownRow.domain false) (Rows.worthKnownSpec.post enc Tryz.prog Tryz.f9 false true false false) := by
  refine returnsInHanded_of_change (C := Tryz.checked) Tryz.own started (by kernel_rfl) Tryz.func9
    (ChangeSpec.witness6 (enc := enc) (C := Tryz.checked) false ⟨#[], #[], []⟩ 8 (by kernel_rfl) (by kernel_rfl) (by kernel_rfl) (by kernel_rfl)) ?_
  intro W base args ds gs before hval0 hW hcnd _
  have hW' := hW
  obtain ⟨p, q, hA0, hV, rfl, hfz, hnd⟩ := hW
  have hA : DataW.TrodAll enc Tryz.prog W 0 (fun _ => true) true Tryz.f9.params.toList args.toList ds p := hA0
  rw [Tryz.params9] at hA
  obtain ⟨rfl, rfl, rfl⟩ := trodAll_none hA
  refine (calls_true Tryz.known9 (noGl_glob W) ⟨rfl, fun i h _ => absurd h (Nat.not_lt_zero _)⟩).mono fun e W' ⟨he, hb, hz⟩ => ?_
  subst he
  exact ⟨_, rfl, law_post Tryz.laidOut (by rw [Tryz.params9]; rfl) rfl (by kernel_rfl) Tryz.boolT (fun ds hd => by rw [Tryz.params9] at hd; obtain rfl := List.eq_nil_of_length_eq_zero hd; rfl) hW' hb hz⟩

theorem worthKnown_holds : Rows.WorthKnownSaid :=
  OpenClaim.holds_of_wide 9 Tryz.f9 rfl rfl rfl rfl rfl rfl rfl ⟨rfl, rfl, rfl, rfl, rfl⟩ rfl rfl rfl rfl rfl (by kernel_rfl) Tryz.func9 (by kernel_rfl)
    (of_decide_eq_true (by kernel_rfl)) (by unfold Func.isWrapper; first | (rw [if_pos (by decide +kernel)]; kernel_rfl) | (rw [if_neg (by decide +kernel)]; exact ⟨rfl, rfl⟩))
    (fun os started H enc _ => worthKnown_lifted os started H enc)
end Go.Proofs.YtebhdkihcdmmjaaGreat
