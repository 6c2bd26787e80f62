/-
  PolicyBest: for every input the law returns true, and its arguments read afterwards as before. No conditions.
-/
import Derived.Test.YtjhbjbninamhnaaGreatRows
import Derived.Test.YtjhbjbninamhnaaGreatConE
import Derived.ProofKit
set_option linter.all false
namespace Go.Proofs.YtjhbjbninamhnaaGreat
open Go.ChangeShapes Go.WideShapes Go.ChangeAt Go.RowKit Go.Hx
set_option maxRecDepth 100000 in
theorem policyBest_lifted (os:Os)(started:os.Started)(H:Type)(enc:TypeId × Value->H):
  ReturnsInHanded {} Tryz.checked os 9 .any (Rows.policyBestSpec.pre6 enc Tryz.prog Tryz.f9 Rows.policyBestRow.domain false) (Rows.policyBestSpec.post enc Tryz.prog Tryz.f9 false true false false):=by
 refine returnsInHanded_of_change (C:=Tryz.checked) Tryz.own started (by kernel_rfl) Tryz.func9
  (ChangeSpec.witness6 (enc:=enc) (C:=Tryz.checked) false ⟨#[],#[.agg #[.int .u8 0,.slice none 0 0,.slice none 0 0,.int .u8 0,.bool false,.slice none 0 0],.agg #[.slice none 0 0,.slice none 0 0,.slice none 0 0,.slice none 0 0]],[]⟩ 8 (by kernel_rfl) (by kernel_rfl) (by kernel_rfl) (by kernel_rfl)) ?_
 intro W base args ds gs before hval0 hW hcnd _;have hval:∀ (j:Nat) t v,Tryz.f9.params[j]?=some t->args[j]?=some v->Value.okWide Tryz.prog W .any base t v:=hval0;have hW':=hW;obtain⟨p,q,hA0,hV,rfl,hfz,hnd⟩:=hW;have hA:DataW.TrodAll enc Tryz.prog W 0 (fun _=>true) true Tryz.f9.params.toList args.toList ds p:=hA0;rw[Tryz.params9]at hA hval;obtain⟨v0,v1,d0,d1,p0,p1,rfl,rfl,rfl,h0,h1⟩:=trodAll_two hA;obtain⟨a0,r0,w0⟩:=KU (hval 0 28 v0 rfl rfl) h0;obtain⟨a1,r1,w1⟩:=KV (hval 1 98 v1 rfl rfl) h1;refine(Es (args:=[.agg a0.cells,.agg a1.cells]) (Sg a0 w0 a1 w1 dw _ fun H' _=>⟨_,rfl,.lit _⟩) (KO W) ⟨rfl,fun i hi _=>match i,hi with|0,_=>r0|1,_=>r1⟩).mono fun e W' ⟨he,hb,hz⟩=>?_;subst he;exact⟨_,rfl,Ex Tryz.laidOut (by rw[Tryz.params9];rfl) rfl (by kernel_rfl) Tryz.KP (fun ds hd=>by
  rw[Tryz.params9]at hd
  match ds,hd with
  | [x0,x1],_=>rfl) hW' hb hz⟩
theorem policyBest_holds:Rows.PolicyBestSaid :=
 OpenClaim.holds_of_wide 9 Tryz.f9 rfl rfl rfl rfl rfl rfl rfl ⟨rfl,rfl,rfl,rfl,rfl⟩ rfl rfl rfl rfl rfl (by kernel_rfl) Tryz.func9 (by kernel_rfl)
  (of_decide_eq_true (by kernel_rfl)) (by unfold Func.isWrapper;first|(rw[if_pos (by decide +kernel)];kernel_rfl)|(rw[if_neg (by decide +kernel)];exact⟨rfl,rfl⟩))
  (fun os started H enc _=>policyBest_lifted os started H enc)
end Go.Proofs.YtjhbjbninamhnaaGreat
