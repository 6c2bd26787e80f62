/-
  FitLikely: for every input the law returns true, and its arguments read afterwards as before (the tied card). No conditions.
-/
import Derived.Test.YtikgmgmphkalkaaDoorRows
import Derived.Test.YtikgmgmphkalkaaDoorCards
import Derived.Test.YtikgmgmphkalkaaDoorTie
import Derived.Test.YtikgmgmphkalkaaDoorConE
import Derived.Test.YtikgmgmphkalkaaDoorConG
import Derived.Test.YtikgmgmphkalkaaDoorLibC
import Derived.ProofKit
import Derived.LaidMore
import Derived.Stop.Joined
import Derived.SevenTiedAt
set_option linter.all false
namespace Go.Proofs.YtikgmgmphkalkaaDoor
open Go.ChangeShapes Go.WideShapes Go.ChangeAt Go.RowKit Go.Hx
theorem trodAll6 {H : Type} {enc : TypeId × Value → H} {P : Program} {w : World} {base : Nat} {spare : Nat → Bool} {held : Bool} {t0 t1 t2 t3 t4 t5 : TypeId} {args : Array Value} {ds : List (DataW H)} {ps : List MemPlace} (h : DataW.TrodAll enc P w base spare held [t0, t1, t2, t3, t4, t5] args.toList ds ps) :
    ∃ v0 v1 v2 v3 v4 v5 d0 d1 d2 d3 d4 d5 p0 p1 p2 p3 p4 p5, args = #[v0, v1, v2, v3, v4, v5] /\ ds = [d0, d1, d2, d3, d4, d5] /\ ps = p0 ++ p1 ++ p2 ++ p3 ++ p4 ++ p5 /\ DataW.Trod enc P w base spare held t0 v0 d0 p0 /\ DataW.Trod enc P w base spare held t1 v1 d1 p1 /\ DataW.Trod enc P w base spare held t2 v2 d2 p2 /\ DataW.Trod enc P w base spare held t3 v3 d3 p3 /\ DataW.Trod enc P w base spare held t4 v4 d4 p4 /\ DataW.Trod enc P w base spare held t5 v5 d5 p5 := by
  obtain⟨v0, w0, d0, e0, p0, q0, hargs, rfl, rfl, h0, r0⟩ := trodAll_cons h
  obtain⟨v1, w1, d1, e1, p1, q1, rfl, rfl, rfl, h1, r1⟩ := trodAll_cons r0
  obtain⟨v2, w2, d2, e2, p2, q2, rfl, rfl, rfl, h2, r2⟩ := trodAll_cons r1
  obtain⟨v3, w3, d3, e3, p3, q3, rfl, rfl, rfl, h3, r3⟩ := trodAll_cons r2
  obtain⟨v4, w4, d4, e4, p4, q4, rfl, rfl, rfl, h4, r4⟩ := trodAll_cons r3
  obtain⟨v5, w5, d5, e5, p5, q5, rfl, rfl, rfl, h5, r5⟩ := trodAll_cons r4
  obtain⟨rfl, rfl, rfl⟩ := trodAll_nil r5
  exact⟨v0, v1, v2, v3, v4, v5, d0, d1, d2, d3, d4, d5, p0, p1, p2, p3, p4, p5, by cases args; simp_all, rfl, by simp, h0, h1, h2, h3, h4, h5⟩
set_option maxRecDepth 100000 in
theorem fitLikely_lifted (os : Os) (started : os.Started) (H : Type) (enc : TypeId × Value → H) :
    ReturnsInHanded {} Tryd.checked os 6 .any (fun w args => (Rows.fitLikelySpec.pre enc Tryd.prog Tryd.f6 [] false w args /\ laidMetH Tryd.prog Rows.fitLikelyRow.laid w) /\ sizedMet enc Tryd.prog Tryd.f6 (OpenSpec.ofChange Rows.fitLikelySpec) false w args)
      (Rows.fitLikelySpec.post enc Tryd.prog Tryd.f6 false true false false) := by
  refine returnsInHanded_of_change_and (C := Tryd.checked) (X := fun w _ => laidMetH Tryd.prog Rows.fitLikelyRow.laid w) (fun _ _ _ hh h => h.of_heap hh) Tryd.own started (by kernel_rfl) Tryd.func6
    (ChangeSpec.witness_shaped (enc := enc) (C := Tryd.checked) (os := os) (X := fun w _ => laidMetH Tryd.prog Rows.fitLikelyRow.laid w) false (World.doorLaid Tryd.prog 400 os) #[.agg #[.slice none 0 0, .slice none 0 0, .int .u8 0, .slice none 0 0], .agg #[.int .u8 0, .int .u8 0, .int .u8 0, .int .u8 0, .int .u8 0, .int .u8 0, .int .u8 0, .int .u16 0], .int .u8 0, .int .u8 0, .int .u8 0, .int .u8 0] 8 rfl (World.shaped_of_RefB (by kernel_rfl) (by kernel_rfl)) (by kernel_rfl) (by kernel_rfl) (by kernel_rfl) (Tryd.Ls os _)) ?_
  intro W base args ds gs before hval0 hW hcnd _ hL _
  have hval:∀ (j:Nat) t v, Tryd.f6.params[j]? = some t -> args[j]? = some v -> Value.okWide Tryd.prog W .any base t v := hval0
  have hW' := hW
  obtain⟨p, q, hA0, hV, rfl, hfz, hnd⟩ := hW
  have hA:DataW.TrodAll enc Tryd.prog W 0 (fun _ => true) true Tryd.f6.params.toList args.toList ds p := hA0
  rw[Tryd.params6]at hA hval
  obtain⟨v0, v1, v2, v3, v4, v5, d0, d1, d2, d3, d4, d5, p0, p1, p2, p3, p4, p5, rfl, rfl, rfl, h0, h1, h2, h3, h4, h5⟩ := trodAll6 hA
  obtain⟨rfl, rfl⟩ := trodVars_none hV
  obtain⟨a0, r0, w0⟩ := Mf (hval 0 37 v0 rfl rfl) h0
  obtain⟨a1n, a1o, a1e, r1, l1, o1, w1⟩ := Mi (hval 1 43 v1 rfl rfl) h1
  obtain⟨a2, r2, w2⟩ := qS Tryd.underlying5 (hval 2 5 v2 rfl rfl) h2
  obtain⟨a3, r3, w3⟩ := qS Tryd.underlying5 (hval 3 5 v3 rfl rfl) h3
  obtain⟨a4, r4, w4⟩ := qS Tryd.underlying5 (hval 4 5 v4 rfl rfl) h4
  obtain⟨a5, r5, w5⟩ := qS Tryd.underlying5 (hval 5 5 v5 rfl rfl) h5
  refine(Di (args := [.agg a0.cells, .agg (dW a1n a1o a1e), .lit (.int .u8 a2), .lit (.int .u8 a3), .lit (.int .u8 a4), .lit (.int .u8 a5)]) (Om a0 w0 a1n a1o a1e l1 o1 w1 a2 a3 a4 a5 (by have := wf_u8 w2; unfold U8; omega) (by have := wf_u8 w3; unfold U8; omega) (by have := wf_u8 w4; unfold U8; omega) (by have := wf_u8 w5; unfold U8; omega) bT _ fun H' _ => ⟨_, rfl, .lit _⟩) (Tryd.Lt hL) ⟨rfl, fun i hi _ => match i, hi with | 0, _ => r0 | 1, _ => r1 | 2, _ => r2 | 3, _ => r3 | 4, _ => r4 | 5, _ => r5⟩).mono fun e W' ⟨he, hb, hz⟩ => ?_
  subst he
  exact⟨_, rfl, Dm Tryd.laidOut (by rw[Tryd.params6]; kernel_rfl) rfl (by kernel_rfl) Tryd.Lm (fun ds hd => by
    rw[Tryd.params6]at hd
    match ds, hd with
    | [x0, x1, x2, x3, x4, x5], _ => rfl) hW' hb hz⟩
theorem fitLikely_row:Rows.FitLikelySaid :=
  OpenClaim.holds_of_wide 6 Tryd.f6 rfl rfl rfl rfl rfl rfl rfl ⟨rfl, rfl, rfl, rfl, rfl⟩ rfl rfl rfl rfl rfl (by kernel_rfl) Tryd.func6 (by kernel_rfl)
    (of_decide_eq_true (by kernel_rfl)) (by unfold Func.isWrapper; first | (rw[QN (by decide +kernel)]; kernel_rfl) | (rw[QQ (by decide +kernel)]; exact⟨rfl, rfl⟩))
    (fun os started H enc _ => fitLikely_lifted os started H enc)
theorem fitLikely_holds:Rows.FitLikelyCardSaid :=
  Claim7.holds_tied_plain_at .later [] [.data] true Rows.fitLikelyCard.stood.harness false
    fitLikely_row (fun _ h => by cases h) (by kernel_rfl) (fun _ h => by cases h) fitLikely_row_tie rfl ⟨rfl, rfl⟩ (by kernel_rfl) rfl
    (fun f fn hf hfn => by
      obtain rfl:f = 6 := Option.some.inj ((show Tryd.prog.funcNamed Rows.fitLikelyRow.func = some 6 by kernel_rfl).symm.trans hf) |>.symm
      obtain rfl:fn = Tryd.f6 := (Option.some.inj (Tryd.func6.symm.trans hfn)).symm
      exact⟨by kernel_rfl, fun j t ht => by
        rw[Tryd.params6]at ht
        have hm:t ∈ ([37, 43, 5, 5, 5, 5]:List TypeId) := by simpa using Array.mem_of_getElem? ht
        have hall:(([37, 43, 5, 5, 5, 5]:List TypeId).all fun u => !Tryd.prog.wantsStandIn u) = true := by kernel_rfl
        exact(show Tryd.prog.wantsStandIn t = false by simpa using Rd.1 hall t hm)⟩)
    (by kernel_rfl)
end Go.Proofs.YtikgmgmphkalkaaDoor
