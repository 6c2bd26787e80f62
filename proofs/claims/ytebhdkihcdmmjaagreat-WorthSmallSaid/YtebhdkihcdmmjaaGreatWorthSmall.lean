/-
  WorthSmall: for every input the law returns true, and its arguments read afterwards as before. No conditions.
-/
import Derived.Test.YtebhdkihcdmmjaaGreatRows
import Derived.Test.YtebhdkihcdmmjaaGreatConE
import Derived.Test.YtebhdkihcdmmjaaGreatConJ
import Derived.ProofKit
set_option linter.all false
namespace Go.Proofs.YtebhdkihcdmmjaaGreat
open Go.ChangeShapes Go.WideShapes Go.ChangeAt Go.RowKit Go.Hx
set_option maxRecDepth 100000 in
theorem worthSmall_lifted (os:Os)(started:os.Started)(H:Type)(enc:TypeId × Value->H):
  ReturnsInHanded {} Tryz.checked os 8 .any (Rows.worthSmallSpec.pre6 enc Tryz.prog Tryz.f8 Rows.worthSmallRow.domain false) (Rows.worthSmallSpec.post enc Tryz.prog Tryz.f8 false true false false):=by
 refine returnsInHanded_of_change (C:=Tryz.checked) Tryz.U started ZF Tryz.func8
  (ChangeSpec.witness6 (enc:=enc) (C:=Tryz.checked) false ⟨#[],#[.agg #[.int .u8 0,.slice none 0 0,.slice none 0 0,.int .u8 0,.bool false,.slice none 0 0],.int .u8 0,.agg #[.int .u8 0,.int .u8 0],.int .u64 0],[]⟩ 8 ZF ZF ZF ZF) ?_
 intro W base args ds gs before hval0 hW hcnd _;have hval:∀(j:Nat) t v,Tryz.f8.params[j]?=some t->args[j]?=some v->Value.okWide Tryz.prog W .any base t v:=hval0;have hW':=hW;obtain⟨p,q,hA0,hV,rfl,hfz,hnd⟩:=hW;have hA:DataW.TrodAll enc Tryz.prog W 0 (fun _=>true) true Tryz.f8.params.toList args.toList ds p:=hA0;rw[Tryz.params8]at hA hval;obtain⟨v0,v1,v2,v3,d0,d1,d2,d3,p0,p1,p2,p3,rfl,rfl,rfl,h0,h1,h2,h3⟩:=trodAll_four hA;obtain⟨a0,r0,w0⟩:=MJ (hval 0 28 v0 rfl rfl) h0;obtain⟨a1,r1,w1⟩:=BN Tryz.underlying5 (hval 1 5 v1 rfl rfl) h1;obtain⟨a2,r2,w2⟩:=Qs (hval 2 63 v2 rfl rfl) h2;obtain⟨a3,r3,w3⟩:=BN Tryz.underlying34 (hval 3 34 v3 rfl rfl) h3;refine(GI (args:=[.agg a0.cells,.lit (.int .u8 a1),.agg a2.cells,.lit (.int .u64 a3)]) (Qr a0 w0 a1 (me w1) a2 w2 a3 (Ql w3) cR _ fun H' _=>⟨_,rfl,.lit _⟩) (MB W) ⟨rfl,fun i hi _=>match i,hi with|0,_=>r0|1,_=>r1|2,_=>r2|3,_=>r3⟩).mono fun e W' ⟨he,hb,hz⟩=>?_;subst he;exact⟨_,rfl,GM Tryz.laidOut (by rw[Tryz.params8];rfl) rfl ZF Tryz.ME (fun ds hd=>by
  rw[Tryz.params8]at hd
  match ds,hd with
  | [x0,x1,x2,x3],_=>rfl) hW' hb hz⟩
theorem worthSmall_holds:Rows.WorthSmallSaid :=
 OpenClaim.holds_of_wide 8 Tryz.f8 rfl rfl rfl rfl rfl rfl rfl ⟨rfl,rfl,rfl,rfl,rfl⟩ rfl rfl rfl rfl rfl ZF Tryz.func8 (ZF)
  (of_decide_eq_true ZF) (by unfold Func.isWrapper;first|(rw[Vf (by decide +kernel)];kernel_rfl)|(rw[Ve (by decide +kernel)];exact⟨rfl,rfl⟩))
  (fun os started H enc _=>worthSmall_lifted os started H enc)
end Go.Proofs.YtebhdkihcdmmjaaGreat
