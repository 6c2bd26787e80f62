/-
  FitFair: for every input the law returns true, and its arguments read afterwards as before (the tied card). No conditions.
-/
import Derived.Test.YtikgmgmphkalkaaDoorRows
import Derived.Test.YtikgmgmphkalkaaDoorCards
import Derived.Test.YtikgmgmphkalkaaDoorTie
import Derived.Test.YtikgmgmphkalkaaDoorConK
import Derived.Test.YtikgmgmphkalkaaDoorLibE
import Derived.ProofKit
import Derived.LaidMore
import Derived.Stop.Joined
import Derived.SevenTiedAt
set_option linter.all false
namespace Go.Proofs.YtikgmgmphkalkaaDoor
open Go.ChangeShapes Go.WideShapes Go.ChangeAt Go.RowKit Go.Hx

set_option maxRecDepth 100000 in
theorem fitFair_lifted (os : Os) (started : os.Started) (H : Type) (enc : TypeId × Value → H) :
    ReturnsInHanded {} Tryd.checked os 8 .any (fun w args => (Rows.fitFairSpec.pre enc Tryd.prog Tryd.f8 [] false w args ∧ laidMetH Tryd.prog Rows.fitFairRow.laid w) ∧ sizedMet enc Tryd.prog Tryd.f8 (OpenSpec.ofChange Rows.fitFairSpec) false w args)
      (Rows.fitFairSpec.post enc Tryd.prog Tryd.f8 false true false false) := by
  refine returnsInHanded_of_change_and (C := Tryd.checked) (X := fun w _ => laidMetH Tryd.prog Rows.fitFairRow.laid w) (fun _ _ _ hh h => h.of_heap hh) Tryd.own started (by kernel_rfl) Tryd.func8
    (ChangeSpec.witness_shaped (enc := enc) (C := Tryd.checked) (os := os) (X := fun w _ => laidMetH Tryd.prog Rows.fitFairRow.laid w) false (World.doorLaid Tryd.prog 400 os) #[.agg #[.slice none 0 0, .slice none 0 0, .int .u8 0, .slice none 0 0], .agg #[.int .u8 0, .int .u8 0, .int .u8 0, .int .u8 0, .int .u8 0, .int .u8 0, .int .u8 0, .int .u16 0], .agg (Array.replicate 3 (.int .u8 0))] 8 rfl (World.shaped_of_RefB (by kernel_rfl) (by kernel_rfl)) (by kernel_rfl) (by kernel_rfl) (by kernel_rfl) (Tryd.door_met os _)) ?_
  intro W base args ds gs before hval0 hW hcnd _ hL _
  have hval : ∀ (j : Nat) t v, Tryd.f8.params[j]? = some t → args[j]? = some v → Value.okWide Tryd.prog W .any base t v := hval0
  have hW' := hW
  obtain ⟨p, q, hA0, hV, rfl, hfz, hnd⟩ := hW
  have hA : DataW.TrodAll enc Tryd.prog W 0 (fun _ => true) true Tryd.f8.params.toList args.toList ds p := hA0
  rw [Tryd.params8] at hA hval
  obtain ⟨v0, v1, v2, d0, d1, d2, p0, p1, p2, rfl, rfl, rfl, h0, h1, h2⟩ := trodAll_three hA
  obtain ⟨rfl, rfl⟩ := trodVars_none hV
  obtain ⟨a0, r0, w0⟩ := arg_d25 (hval 0 37 v0 rfl rfl) h0
  obtain ⟨a1n, a1o, a1e, r1, l1, o1, w1⟩ := arg_plan (hval 1 43 v1 rfl rfl) h1
  obtain ⟨a2, r2, l2, w2⟩ := arg_intArr Tryd.underlying45 Tryd.underlying5 Tryd.cells5 Tryd.cells45 (hval 2 45 v2 rfl rfl) h2
  refine (calls_true (args := [.agg a0.cells, .agg (planC a1n a1o a1e), .agg (intL .u8 a2)]) (fair_call a0 w0 a1n a1o a1e l1 o1 w1 a2 l2 w2 noH _ fun H' _ => ⟨_, rfl, .lit _⟩) (Tryd.glob_ok hL) ⟨rfl, fun i hi _ => match i, hi with | 0, _ => r0 | 1, _ => r1 | 2, _ => r2⟩).mono fun e W' ⟨he, hb, hz⟩ => ?_
  subst he
  exact ⟨_, rfl, law_post Tryd.laidOut (by rw [Tryd.params8]; kernel_rfl) rfl (by kernel_rfl) Tryd.boolT (fun ds hd => by
    rw [Tryd.params8] at hd
    match ds, hd with
    | [x0, x1, x2], _ => rfl) hW' hb hz⟩

theorem fitFair_row : Rows.FitFairSaid :=
  OpenClaim.holds_of_wide 8 Tryd.f8 rfl rfl rfl rfl rfl rfl rfl ⟨rfl, rfl, rfl, rfl, rfl⟩ rfl rfl rfl rfl rfl (by kernel_rfl) Tryd.func8 (by kernel_rfl)
    (of_decide_eq_true (by kernel_rfl)) (by unfold Func.isWrapper; first | (rw [if_pos (by decide +kernel)]; kernel_rfl) | (rw [if_neg (by decide +kernel)]; exact ⟨rfl, rfl⟩))
    (fun os started H enc _ => fitFair_lifted os started H enc)

theorem fitFair_holds : Rows.FitFairCardSaid :=
  Claim7.holds_tied_plain_at .later [] [.data] true Rows.fitFairCard.stood.harness false
    fitFair_row (fun _ h => by cases h) (by kernel_rfl) (fun _ h => by cases h) fitFair_row_tie rfl ⟨rfl, rfl⟩ (by kernel_rfl) rfl
    (fun f fn hf hfn => by
      obtain rfl : f = 8 := Option.some.inj ((show Tryd.prog.funcNamed Rows.fitFairRow.func = some 8 by kernel_rfl).symm.trans hf) |>.symm
      obtain rfl : fn = Tryd.f8 := (Option.some.inj (Tryd.func8.symm.trans hfn)).symm
      exact ⟨by kernel_rfl, fun j t ht => by
        rw [Tryd.params8] at ht
        have hm : t ∈ ([37, 43, 45] : List TypeId) := by simpa using Array.mem_of_getElem? ht
        have hall : (([37, 43, 45] : List TypeId).all fun u => !Tryd.prog.wantsStandIn u) = true := by kernel_rfl
        exact (show Tryd.prog.wantsStandIn t = false by simpa using List.all_eq_true.1 hall t hm)⟩)
    (by kernel_rfl)
end Go.Proofs.YtikgmgmphkalkaaDoor
