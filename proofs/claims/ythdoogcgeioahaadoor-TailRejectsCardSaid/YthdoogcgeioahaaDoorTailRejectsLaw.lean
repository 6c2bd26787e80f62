/-
  TailRejects: for every input the law returns true, and its arguments read afterwards as before (the tied card). No conditions.
-/
import Derived.Test.YthdoogcgeioahaaDoorRows
import Derived.Test.YthdoogcgeioahaaDoorCards
import Derived.Test.YthdoogcgeioahaaDoorTie
import Derived.Test.YthdoogcgeioahaaDoorConD
import Derived.Test.YthdoogcgeioahaaDoorBase0
import Derived.Test.YthdoogcgeioahaaDoorLibE
import Derived.ProofKit
import Derived.LaidMore
import Derived.Stop.Joined
import Derived.SevenTiedAt
set_option linter.all false
set_option linter.unusedSimpArgs false
namespace Go.Proofs.YthdoogcgeioahaaDoor
open Go.ChangeShapes Go.WideShapes Go.ChangeAt Go.RowKit Go.Hx

set_option maxRecDepth 100000 in
theorem tailRejects_lifted (os : Os) (started : os.Started) (H : Type) (enc : TypeId × Value → H) :
    ReturnsInHanded {} Tryd.checked os 7 .any (fun w args => (Rows.tailRejectsSpec.pre enc Tryd.prog Tryd.f7 [] false w args ∧ laidMetH Tryd.prog Rows.tailRejectsRow.laid w) ∧ sizedMet enc Tryd.prog Tryd.f7 (OpenSpec.ofChange Rows.tailRejectsSpec) false w args)
      (Rows.tailRejectsSpec.post enc Tryd.prog Tryd.f7 false true false false) := by
  refine returnsInHanded_of_change_and (C := Tryd.checked) (X := fun w _ => laidMetH Tryd.prog Rows.tailRejectsRow.laid w) (fun _ _ _ hh h => h.of_heap hh) Tryd.own started (by kernel_rfl) Tryd.func7
    (ChangeSpec.witness_shaped (enc := enc) (C := Tryd.checked) (os := os) (X := fun w _ => laidMetH Tryd.prog Rows.tailRejectsRow.laid w) false (World.doorLaid Tryd.prog 400 os) #[.agg (Array.replicate 12 (.int .u8 0)), .slice none 0 0, .agg #[.int .i64 0, .int .i64 0], .agg (Array.replicate 2 (.int .u8 0))] 8 rfl (World.shaped_of_RefB (by kernel_rfl) (by kernel_rfl)) (by kernel_rfl) (by kernel_rfl) (by kernel_rfl) (Tryd.door_met os _)) ?_
  intro W base args ds gs before hval0 hW hcnd _ hL _
  have hval : ∀ (j : Nat) t v, Tryd.f7.params[j]? = some t → args[j]? = some v → Value.okWide Tryd.prog W .any base t v := hval0
  have hW' := hW
  obtain ⟨p, q, hA0, hV, rfl, hfz, hnd⟩ := hW
  have hA : DataW.TrodAll enc Tryd.prog W 0 (fun _ => true) true Tryd.f7.params.toList args.toList ds p := hA0
  rw [Tryd.params7] at hA hval
  obtain ⟨v0, v1, v2, v3, d0, d1, d2, d3, p0, p1, p2, p3, rfl, rfl, rfl, h0, h1, h2, h3⟩ := trodAll_four hA
  obtain ⟨rfl, rfl⟩ := trodVars_none hV
  obtain ⟨hi, wi, mo, ns, r0, hn, hh, hw, hm, hns⟩ := arg_draft (hval 0 24 v0 rfl rfl) h0
  obtain ⟨a1, r1, l1, w1⟩ := arg_rows Tryd.underlying26 Tryd.underlying46 Tryd.underlying3 Tryd.cells3 Tryd.cells46 (hval 1 26 v1 rfl rfl) h1
  obtain ⟨a2n, a2d, r2, w2n, w2d⟩ := arg_q (hval 2 29 v2 rfl rfl) h2
  obtain ⟨a3, r3, l3, w3⟩ := arg_intArr Tryd.underlying58 Tryd.underlying5 Tryd.cells5 Tryd.cells58 (hval 3 58 v3 rfl rfl) h3
  refine (calls_true (args := [.agg (u8L (hi :: wi :: (ns ++ [mo]))), vecV a1, .agg [.lit (.int .i64 a2n), .lit (.int .i64 a2d)], .agg (intL .u8 a3)]) (rejects_call hi wi mo ns hn hh hw hm hns a1 a2n a2d (wf_i64 w2n) (wf_i64 w2d) a3 l3 (fun c hc => wf_u8 (w3 c hc)) noH _ ⟨_, rfl, .lit _⟩) (Tryd.glob_ok hL) ⟨rfl, fun i hi _ => match i, hi with | 0, _ => r0 | 1, _ => r1 | 2, _ => r2 | 3, _ => r3⟩).mono fun e W' ⟨he, hb, hz⟩ => ?_
  subst he
  exact ⟨_, rfl, law_post Tryd.laidOut (by rw [Tryd.params7]; kernel_rfl) rfl (by kernel_rfl) Tryd.boolT (fun ds hd => by
    rw [Tryd.params7] at hd
    match ds, hd with
    | [x0, x1, x2, x3], _ => rfl) hW' hb hz⟩

theorem tailRejects_row : Rows.TailRejectsSaid :=
  OpenClaim.holds_of_wide 7 Tryd.f7 rfl rfl rfl rfl rfl rfl rfl ⟨rfl, rfl, rfl, rfl, rfl⟩ rfl rfl rfl rfl rfl (by kernel_rfl) Tryd.func7 (by kernel_rfl)
    (of_decide_eq_true (by kernel_rfl)) (by unfold Func.isWrapper; first | (rw [if_pos (by decide +kernel)]; kernel_rfl) | (rw [if_neg (by decide +kernel)]; exact ⟨rfl, rfl⟩))
    (fun os started H enc _ => tailRejects_lifted os started H enc)

theorem tailRejects_holds : Rows.TailRejectsCardSaid :=
  Claim7.holds_tied_plain_at .later [] [.data] true Rows.tailRejectsCard.stood.harness false
    tailRejects_row (fun _ h => by cases h) (by kernel_rfl) (fun _ h => by cases h) tailRejects_row_tie rfl ⟨rfl, rfl⟩ (by kernel_rfl) rfl
    (fun f fn hf hfn => by
      obtain rfl : f = 7 := Option.some.inj ((show Tryd.prog.funcNamed Rows.tailRejectsRow.func = some 7 by kernel_rfl).symm.trans hf) |>.symm
      obtain rfl : fn = Tryd.f7 := (Option.some.inj (Tryd.func7.symm.trans hfn)).symm
      exact ⟨by kernel_rfl, fun j t ht => by
        rw [Tryd.params7] at ht
        have hm : t ∈ ([24, 26, 29, 58] : List TypeId) := by simpa using Array.mem_of_getElem? ht
        have hall : (([24, 26, 29, 58] : List TypeId).all fun u => !Tryd.prog.wantsStandIn u) = true := by kernel_rfl
        exact (show Tryd.prog.wantsStandIn t = false by simpa using List.all_eq_true.1 hall t hm)⟩)
    (by kernel_rfl)
end Go.Proofs.YthdoogcgeioahaaDoor
