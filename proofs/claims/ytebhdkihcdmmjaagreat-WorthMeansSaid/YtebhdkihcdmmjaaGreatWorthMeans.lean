/-
  WorthMeans: for every input the law returns true, and its arguments read afterwards as before. No conditions.
-/
import Derived.Test.YtebhdkihcdmmjaaGreatRows
import Derived.Test.YtebhdkihcdmmjaaGreatConE
import Derived.Test.YtebhdkihcdmmjaaGreatConK
import Derived.ProofKit
set_option linter.all false
namespace Go.Proofs.YtebhdkihcdmmjaaGreat
open Go.ChangeShapes Go.WideShapes Go.ChangeAt Go.RowKit Go.Hx
set_option maxRecDepth 100000 in
theorem worthMeans_lifted (os:Os)(started:os.Started)(H:Type)(enc:TypeId × Value->H):
  ReturnsInHanded {} Tryz.checked os 7 .any (Rows.worthMeansSpec.pre6 enc Tryz.prog Tryz.f7 Rows.worthMeansRow.domain false) (Rows.worthMeansSpec.post enc Tryz.prog Tryz.f7 false true false false):=by
 refine returnsInHanded_of_change (C:=Tryz.checked) Tryz.U started ZI Tryz.func7
  (ChangeSpec.witness6 (enc:=enc) (C:=Tryz.checked) false ⟨#[],#[.agg #[.int .u8 0,.slice none 0 0,.slice none 0 0,.int .u8 0,.bool false,.slice none 0 0],.int .u8 0,.int .u64 0],[]⟩ 8 ZI ZI ZI ZI) ?_
 intro W base args ds gs before hval0 hW hcnd _;have hval:∀(j:Nat) t v,Tryz.f7.params[j]?=some t->args[j]?=some v->Value.okWide Tryz.prog W .any base t v:=hval0;have hW':=hW;obtain⟨p,q,hA0,hV,rfl,hfz,hnd⟩:=hW;have hA:DataW.TrodAll enc Tryz.prog W 0 (fun _=>true) true Tryz.f7.params.toList args.toList ds p:=hA0;rw[Tryz.params7]at hA hval;obtain⟨v0,v1,v2,d0,d1,d2,p0,p1,p2,rfl,rfl,rfl,h0,h1,h2⟩:=trodAll_three hA;obtain⟨a0,r0,w0⟩:=MT (hval 0 28 v0 rfl rfl) h0;obtain⟨a1,r1,w1⟩:=B4 Tryz.underlying5 (hval 1 5 v1 rfl rfl) h1;obtain⟨a2,r2,w2⟩:=B4 Tryz.underlying34 (hval 2 34 v2 rfl rfl) h2;refine(GT (args:=[.agg a0.cells,.lit (.int .u8 a1),.lit (.int .u64 a2)]) (Qy a0 w0 a1 (oq w1) a2 (Qt w2) cW _ fun H' _=>⟨_,rfl,.lit _⟩) (ML W) ⟨rfl,fun i hi _=>match i,hi with|0,_=>r0|1,_=>r1|2,_=>r2⟩).mono fun e W' ⟨he,hb,hz⟩=>?_;subst he;exact⟨_,rfl,GX Tryz.laidOut (by rw[Tryz.params7];rfl) rfl ZI Tryz.MO (fun ds hd=>by
  rw[Tryz.params7]at hd
  match ds,hd with
  | [x0,x1,x2],_=>rfl) hW' hb hz⟩
theorem worthMeans_holds:Rows.WorthMeansSaid :=
 OpenClaim.holds_of_wide 7 Tryz.f7 rfl rfl rfl rfl rfl rfl rfl ⟨rfl,rfl,rfl,rfl,rfl⟩ rfl rfl rfl rfl rfl ZI Tryz.func7 (ZI)
  (of_decide_eq_true ZI) (by unfold Func.isWrapper;first|(rw[Vh (by decide +kernel)];kernel_rfl)|(rw[Vg (by decide +kernel)];exact⟨rfl,rfl⟩))
  (fun os started H enc _=>worthMeans_lifted os started H enc)
end Go.Proofs.YtebhdkihcdmmjaaGreat
