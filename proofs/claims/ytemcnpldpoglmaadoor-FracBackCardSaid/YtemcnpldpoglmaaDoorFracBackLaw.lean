/-
  FracBack: for every input the law returns true, and its arguments read afterwards as before (the tied card). No conditions.
-/
import Derived.Test.YtemcnpldpoglmaaDoorRows
import Derived.Test.YtemcnpldpoglmaaDoorCards
import Derived.Test.YtemcnpldpoglmaaDoorTie
import Derived.Test.YtemcnpldpoglmaaDoorConG
import Derived.Test.YtemcnpldpoglmaaDoorBase0
import Derived.Test.YtemcnpldpoglmaaDoorLibE
import Derived.ProofKit
import Derived.LaidMore
import Derived.Stop.Joined
import Derived.SevenTiedAt
set_option linter.all false
set_option linter.unusedSimpArgs false
namespace Go.Proofs.YtemcnpldpoglmaaDoor
open Go.ChangeShapes Go.WideShapes Go.ChangeAt Go.RowKit Go.Hx

set_option maxRecDepth 100000 in
theorem fracBack_lifted (os : Os) (started : os.Started) (H : Type) (enc : TypeId × Value → H) :
    ReturnsInHanded {} Tryd.checked os 9 .any (fun w args => (Rows.fracBackSpec.pre enc Tryd.prog Tryd.f9 [] false w args ∧ laidMetH Tryd.prog Rows.fracBackRow.laid w) ∧ sizedMet enc Tryd.prog Tryd.f9 (OpenSpec.ofChange Rows.fracBackSpec) false w args)
      (Rows.fracBackSpec.post enc Tryd.prog Tryd.f9 false true false false) := by
  refine returnsInHanded_of_change_and (C := Tryd.checked) (X := fun w _ => laidMetH Tryd.prog Rows.fracBackRow.laid w) (fun _ _ _ hh h => h.of_heap hh) Tryd.own started (by kernel_rfl) Tryd.func9
    (ChangeSpec.witness_shaped (enc := enc) (C := Tryd.checked) (os := os) (X := fun w _ => laidMetH Tryd.prog Rows.fracBackRow.laid w) false (World.doorLaid Tryd.prog 400 os) #[.int .i64 0, .int .i64 0, .int .i16 0] 8 rfl (World.shaped_of_RefB (by kernel_rfl) (by kernel_rfl)) (by kernel_rfl) (by kernel_rfl) (by kernel_rfl) (Tryd.door_met os _)) ?_
  intro W base args ds gs before hval0 hW hcnd _ hL _
  have hval : ∀ (j : Nat) t v, Tryd.f9.params[j]? = some t → args[j]? = some v → Value.okWide Tryd.prog W .any base t v := hval0
  have hW' := hW
  obtain ⟨p, q, hA0, hV, rfl, hfz, hnd⟩ := hW
  have hA : DataW.TrodAll enc Tryd.prog W 0 (fun _ => true) true Tryd.f9.params.toList args.toList ds p := hA0
  rw [Tryd.params9] at hA hval
  obtain ⟨v0, v1, v2, d0, d1, d2, p0, p1, p2, rfl, rfl, rfl, h0, h1, h2⟩ := trodAll_three hA
  obtain ⟨rfl, rfl⟩ := trodVars_none hV
  obtain ⟨a0, r0, w0⟩ := arg_int Tryd.underlying3 (hval 0 3 v0 rfl rfl) h0
  obtain ⟨a1, r1, w1⟩ := arg_int Tryd.underlying3 (hval 1 3 v1 rfl rfl) h1
  obtain ⟨a2, r2, w2⟩ := arg_int Tryd.underlying56 (hval 2 56 v2 rfl rfl) h2
  refine (calls_true (args := [.lit (.int .i64 a0), .lit (.int .i64 a1), .lit (.int .i16 a2)]) (back_spec a0 a1 a2 (wf_i64 w0) (wf_i64 w1) (wf_i16 w2) noH _ ⟨_, rfl, .lit _⟩) (Tryd.glob_ok hL) ⟨rfl, fun i hi _ => match i, hi with | 0, _ => r0 | 1, _ => r1 | 2, _ => r2⟩).mono fun e W' ⟨he, hb, hz⟩ => ?_
  subst he
  exact ⟨_, rfl, law_post Tryd.laidOut (by rw [Tryd.params9]; kernel_rfl) rfl (by kernel_rfl) Tryd.boolT (fun ds hd => by
    rw [Tryd.params9] at hd
    match ds, hd with
    | [x0, x1, x2], _ => rfl) hW' hb hz⟩

theorem fracBack_row : Rows.FracBackSaid :=
  OpenClaim.holds_of_wide 9 Tryd.f9 rfl rfl rfl rfl rfl rfl rfl ⟨rfl, rfl, rfl, rfl, rfl⟩ rfl rfl rfl rfl rfl (by kernel_rfl) Tryd.func9 (by kernel_rfl)
    (of_decide_eq_true (by kernel_rfl)) (by unfold Func.isWrapper; first | (rw [if_pos (by decide +kernel)]; kernel_rfl) | (rw [if_neg (by decide +kernel)]; exact ⟨rfl, rfl⟩))
    (fun os started H enc _ => fracBack_lifted os started H enc)

theorem fracBack_holds : Rows.FracBackCardSaid :=
  Claim7.holds_tied_plain_at .later [] [.data, .data, .data] true Rows.fracBackCard.stood.harness false
    fracBack_row (fun _ h => by cases h) (by kernel_rfl) (fun _ h => by cases h) fracBack_row_tie rfl ⟨rfl, rfl⟩ (by kernel_rfl) rfl
    (fun f fn hf hfn => by
      obtain rfl : f = 9 := Option.some.inj ((show Tryd.prog.funcNamed Rows.fracBackRow.func = some 9 by kernel_rfl).symm.trans hf) |>.symm
      obtain rfl : fn = Tryd.f9 := (Option.some.inj (Tryd.func9.symm.trans hfn)).symm
      exact ⟨by kernel_rfl, fun j t ht => by
        rw [Tryd.params9] at ht
        have hm : t ∈ ([3, 3, 56] : List TypeId) := by simpa using Array.mem_of_getElem? ht
        have hall : (([3, 3, 56] : List TypeId).all fun u => !Tryd.prog.wantsStandIn u) = true := by kernel_rfl
        exact (show Tryd.prog.wantsStandIn t = false by simpa using List.all_eq_true.1 hall t hm)⟩)
    (by kernel_rfl)
end Go.Proofs.YtemcnpldpoglmaaDoor
