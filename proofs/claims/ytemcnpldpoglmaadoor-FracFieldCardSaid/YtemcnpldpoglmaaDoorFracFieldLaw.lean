/-
  FracField: for every input the law returns true, and its arguments read afterwards as before (the tied card). No conditions.
-/
import Derived.Test.YtemcnpldpoglmaaDoorRows
import Derived.Test.YtemcnpldpoglmaaDoorCards
import Derived.Test.YtemcnpldpoglmaaDoorTie
import Derived.Test.YtemcnpldpoglmaaDoorConF
import Derived.Test.YtemcnpldpoglmaaDoorBase0
import Derived.Test.YtemcnpldpoglmaaDoorLibE
import Derived.ProofKit
import Derived.LaidMore
import Derived.Stop.Joined
import Derived.SevenTiedAt
set_option linter.all false
set_option linter.unusedSimpArgs false
namespace Go.Proofs.YtemcnpldpoglmaaDoor
open Go.ChangeShapes Go.WideShapes Go.ChangeAt Go.RowKit Go.Hx

set_option maxRecDepth 100000 in
theorem fracField_lifted (os : Os) (started : os.Started) (H : Type) (enc : TypeId × Value → H) :
    ReturnsInHanded {} Tryd.checked os 8 .any (fun w args => (Rows.fracFieldSpec.pre enc Tryd.prog Tryd.f8 [] false w args ∧ laidMetH Tryd.prog Rows.fracFieldRow.laid w) ∧ sizedMet enc Tryd.prog Tryd.f8 (OpenSpec.ofChange Rows.fracFieldSpec) false w args)
      (Rows.fracFieldSpec.post enc Tryd.prog Tryd.f8 false true false false) := by
  refine returnsInHanded_of_change_and (C := Tryd.checked) (X := fun w _ => laidMetH Tryd.prog Rows.fracFieldRow.laid w) (fun _ _ _ hh h => h.of_heap hh) Tryd.own started (by kernel_rfl) Tryd.func8
    (ChangeSpec.witness_shaped (enc := enc) (C := Tryd.checked) (os := os) (X := fun w _ => laidMetH Tryd.prog Rows.fracFieldRow.laid w) false (World.doorLaid Tryd.prog 400 os) #[.agg (Array.replicate 6 (.int .i16 0))] 8 rfl (World.shaped_of_RefB (by kernel_rfl) (by kernel_rfl)) (by kernel_rfl) (by kernel_rfl) (by kernel_rfl) (Tryd.door_met os _)) ?_
  intro W base args ds gs before hval0 hW hcnd _ hL _
  have hval : ∀ (j : Nat) t v, Tryd.f8.params[j]? = some t → args[j]? = some v → Value.okWide Tryd.prog W .any base t v := hval0
  have hW' := hW
  obtain ⟨p, q, hA0, hV, rfl, hfz, hnd⟩ := hW
  have hA : DataW.TrodAll enc Tryd.prog W 0 (fun _ => true) true Tryd.f8.params.toList args.toList ds p := hA0
  rw [Tryd.params8] at hA hval
  obtain ⟨v0, d0, rfl, rfl, h0⟩ := trodAll_one hA
  obtain ⟨rfl, rfl⟩ := trodVars_none hV
  obtain ⟨a0, r0, l0, w0⟩ := arg_intArr Tryd.underlying57 Tryd.underlying56 Tryd.cells56 Tryd.cells57 (hval 0 57 v0 rfl rfl) h0
  obtain ⟨a0_0, a0_1, a0_2, a0_3, a0_4, a0_5, rfl⟩ := six_of l0
  refine (calls_true (args := [.agg (intL .i16 [a0_0, a0_1, a0_2, a0_3, a0_4, a0_5])]) (field_spec a0_0 a0_1 a0_2 a0_3 a0_4 a0_5 (wf_i16 (w0 _ (by simp))) (wf_i16 (w0 _ (by simp))) (wf_i16 (w0 _ (by simp))) (wf_i16 (w0 _ (by simp))) (wf_i16 (w0 _ (by simp))) (wf_i16 (w0 _ (by simp))) noH _ ⟨_, rfl, .lit _⟩) (Tryd.glob_ok hL) ⟨rfl, fun i hi _ => match i, hi with | 0, _ => r0⟩).mono fun e W' ⟨he, hb, hz⟩ => ?_
  subst he
  exact ⟨_, rfl, law_post Tryd.laidOut (by rw [Tryd.params8]; kernel_rfl) rfl (by kernel_rfl) Tryd.boolT (fun ds hd => by
    rw [Tryd.params8] at hd
    match ds, hd with
    | [x0], _ => rfl) hW' hb hz⟩

theorem fracField_row : Rows.FracFieldSaid :=
  OpenClaim.holds_of_wide 8 Tryd.f8 rfl rfl rfl rfl rfl rfl rfl ⟨rfl, rfl, rfl, rfl, rfl⟩ rfl rfl rfl rfl rfl (by kernel_rfl) Tryd.func8 (by kernel_rfl)
    (of_decide_eq_true (by kernel_rfl)) (by unfold Func.isWrapper; first | (rw [if_pos (by decide +kernel)]; kernel_rfl) | (rw [if_neg (by decide +kernel)]; exact ⟨rfl, rfl⟩))
    (fun os started H enc _ => fracField_lifted os started H enc)

theorem fracField_holds : Rows.FracFieldCardSaid :=
  Claim7.holds_tied_plain_at .later [] [.data, .data, .data] true Rows.fracFieldCard.stood.harness false
    fracField_row (fun _ h => by cases h) (by kernel_rfl) (fun _ h => by cases h) fracField_row_tie rfl ⟨rfl, rfl⟩ (by kernel_rfl) rfl
    (fun f fn hf hfn => by
      obtain rfl : f = 8 := Option.some.inj ((show Tryd.prog.funcNamed Rows.fracFieldRow.func = some 8 by kernel_rfl).symm.trans hf) |>.symm
      obtain rfl : fn = Tryd.f8 := (Option.some.inj (Tryd.func8.symm.trans hfn)).symm
      exact ⟨by kernel_rfl, fun j t ht => by
        rw [Tryd.params8] at ht
        have hm : t ∈ ([57] : List TypeId) := by simpa using Array.mem_of_getElem? ht
        have hall : (([57] : List TypeId).all fun u => !Tryd.prog.wantsStandIn u) = true := by kernel_rfl
        exact (show Tryd.prog.wantsStandIn t = false by simpa using List.all_eq_true.1 hall t hm)⟩)
    (by kernel_rfl)
end Go.Proofs.YtemcnpldpoglmaaDoor
