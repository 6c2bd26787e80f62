/-
  PolicyScaled: for every input the law returns true, and its arguments read afterwards as before. No conditions.
-/
import Derived.Test.YtjhbjbninamhnaaGreatRows
import Derived.Test.YtjhbjbninamhnaaGreatConE
import Derived.Test.YtjhbjbninamhnaaGreatConI
import Derived.ProofKit
set_option linter.all false
namespace Go.Proofs.YtjhbjbninamhnaaGreat
open Go.ChangeShapes Go.WideShapes Go.ChangeAt Go.RowKit Go.Hx
set_option maxRecDepth 100000 in
theorem policyScaled_lifted (os:Os)(started:os.Started)(H:Type)(enc:TypeId × Value->H):
  ReturnsInHanded {} Tryz.checked os 6 .any (Rows.policyScaledSpec.pre6 enc Tryz.prog Tryz.f6 Rows.policyScaledRow.domain false) (Rows.policyScaledSpec.post enc Tryz.prog Tryz.f6 false true false false):=by
 refine returnsInHanded_of_change_sized (C:=Tryz.checked) Tryz.Q started W7 Tryz.func6
  (ChangeSpec.witness6 (enc:=enc) (C:=Tryz.checked) false ⟨#[],#[.agg #[.int .u8 0,.slice none 0 0,.slice none 0 0,.int .u8 0,.bool false,.slice none 0 0],.int .u8 0,.int .i8 0],[]⟩ 8 W7 W7 W7 W7) ?_
 intro W base args ds gs before hval0 hW hcnd hsz _;have hval:∀(j:Nat) t v,Tryz.f6.params[j]?=some t->args[j]?=some v->Value.okWide Tryz.prog W .any base t v:=hval0;have hW':=hW;obtain⟨p,q,hA0,hV,rfl,hfz,hnd⟩:=hW;have hA:DataW.TrodAll enc Tryz.prog W 0 (fun _=>true) true Tryz.f6.params.toList args.toList ds p:=hA0;rw[Tryz.params6]at hA hval;obtain⟨v0,v1,v2,d0,d1,d2,p0,p1,p2,rfl,rfl,rfl,h0,h1,h2⟩:=trodAll_three hA;obtain⟨a0,r0,w0,x0⟩:=SK (fun n hn=>by simpa using Tn.1 hsz n (DataW.weights_mem_each (j:=0) (by rw[Tryz.params6];rfl) rfl n hn)) (hval 0 28 v0 rfl rfl) h0;obtain⟨a1,r1,w1⟩:=AS Tryz.underlying5 (hval 1 5 v1 rfl rfl) h1;obtain⟨a2,r2,w2⟩:=AS Tryz.underlying77 (hval 2 77 v2 rfl rfl) h2;refine(ET (args:=[.agg a0.cells,.lit (.int .u8 a1),.lit (.int .i8 a2)]) (SE a0 w0 a1 a2 (nO w1) (wf_i8 w2) x0 dp _ fun H' _=>⟨_,rfl,.lit _⟩) (K9 W) ⟨rfl,fun i hi _=>match i,hi with|0,_=>r0|1,_=>r1|2,_=>r2⟩).mono fun e W' ⟨he,hb,hz⟩=>?_;subst he;exact⟨_,rfl,EX Tryz.laidOut (by rw[Tryz.params6];rfl) rfl W7 Tryz.Lb (fun ds hd=>by
  rw[Tryz.params6]at hd
  match ds,hd with
  | [x0,x1,x2],_=>rfl) hW' hb hz⟩
theorem policyScaled_holds:Rows.PolicyScaledSaid :=
 OpenClaim.holds_of_wide 6 Tryz.f6 rfl rfl rfl rfl rfl rfl rfl ⟨rfl,rfl,rfl,rfl,rfl⟩ rfl rfl rfl rfl rfl W7 Tryz.func6 (W7)
  (of_decide_eq_true W7) (by unfold Func.isWrapper;first|(rw[SU (by decide +kernel)];kernel_rfl)|(rw[SQ (by decide +kernel)];exact⟨rfl,rfl⟩))
  (fun os started H enc _=>policyScaled_lifted os started H enc)
end Go.Proofs.YtjhbjbninamhnaaGreat
