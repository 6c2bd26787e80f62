/-
  WorthOpens: for every input the law returns true, and its arguments read afterwards as before. No conditions.
-/
import Derived.Test.YtebhdkihcdmmjaaGreatRows
import Derived.Test.YtebhdkihcdmmjaaGreatConF
import Derived.Test.YtebhdkihcdmmjaaGreatConJ
import Derived.ProofKit
set_option linter.all false
namespace Go.Proofs.YtebhdkihcdmmjaaGreat
open Go.ChangeShapes Go.WideShapes Go.ChangeAt Go.RowKit Go.Hx
theorem trodAll5 {H:Type}{enc:TypeId × Value->H}{P:Program}{w:World}{base:Nat}{spare:Nat->Bool}{held:Bool}{t0 t1 t2 t3 t4:TypeId}{args:Array Value}{ds:List (DataW H)}{ps:List MemPlace}(h:DataW.TrodAll enc P w base spare held [t0,t1,t2,t3,t4] args.toList ds ps):
  ∃v0 v1 v2 v3 v4 d0 d1 d2 d3 d4 p0 p1 p2 p3 p4,args=#[v0,v1,v2,v3,v4]/\ds=[d0,d1,d2,d3,d4]/\ps=p0++p1++p2++p3++p4/\DataW.Trod enc P w base spare held t0 v0 d0 p0/\DataW.Trod enc P w base spare held t1 v1 d1 p1/\DataW.Trod enc P w base spare held t2 v2 d2 p2/\DataW.Trod enc P w base spare held t3 v3 d3 p3/\DataW.Trod enc P w base spare held t4 v4 d4 p4:=by
 obtain⟨v0,w0,d0,e0,p0,q0,hargs,rfl,rfl,h0,r0⟩:=trodAll_cons h;obtain⟨v1,w1,d1,e1,p1,q1,rfl,rfl,rfl,h1,r1⟩:=trodAll_cons r0;obtain⟨v2,w2,d2,e2,p2,q2,rfl,rfl,rfl,h2,r2⟩:=trodAll_cons r1;obtain⟨v3,w3,d3,e3,p3,q3,rfl,rfl,rfl,h3,r3⟩:=trodAll_cons r2;obtain⟨v4,w4,d4,e4,p4,q4,rfl,rfl,rfl,h4,r4⟩:=trodAll_cons r3;obtain⟨rfl,rfl,rfl⟩:=trodAll_nil r4;exact⟨v0,v1,v2,v3,v4,d0,d1,d2,d3,d4,p0,p1,p2,p3,p4,by cases args;simp_all,rfl,aaw,h0,h1,h2,h3,h4⟩
set_option maxRecDepth 100000 in
theorem worthOpens_lifted (os:Os)(started:os.Started)(H:Type)(enc:TypeId × Value->H):
  ReturnsInHanded {} Tryz.checked os 3 .any (Rows.worthOpensSpec.pre6 enc Tryz.prog Tryz.f3 Rows.worthOpensRow.domain false) (Rows.worthOpensSpec.post enc Tryz.prog Tryz.f3 false true false false):=by
 refine returnsInHanded_of_change (C:=Tryz.checked) Tryz.Z started aay Tryz.func3
  (ChangeSpec.witness6 (enc:=enc) (C:=Tryz.checked) false ⟨#[],#[.agg #[.int .u8 0,.slice none 0 0,.slice none 0 0,.int .u8 0,.bool false,.slice none 0 0],.agg #[.int .u8 0,.int .u8 0,.int .u8 0,.int .u8 0,.int .i64 0,.int .i64 0,.int .u8 0,.int .u8 0,.int .u8 0,.int .u8 0,.int .i64 0,.int .i64 0],.int .i64 0,.int .u8 0,.int .u64 0],[]⟩ 8 aay aay aay aay) ?_
 intro W base args ds gs before hval0 hW hcnd _;have hval:∀(j:Nat) t v,Tryz.f3.params[j]?=some t->args[j]?=some v->Value.okWide Tryz.prog W .any base t v:=hval0;have hW':=hW;obtain⟨p,q,hA0,hV,rfl,hfz,hnd⟩:=hW;have hA:DataW.TrodAll enc Tryz.prog W 0 (fun _=>true) true Tryz.f3.params.toList args.toList ds p:=hA0;rw[Tryz.params3]at hA hval;obtain⟨v0,v1,v2,v3,v4,d0,d1,d2,d3,d4,p0,p1,p2,p3,p4,rfl,rfl,rfl,h0,h1,h2,h3,h4⟩:=trodAll5 hA;obtain⟨a0,r0,w0⟩:=Qr (hval 0 28 v0 rfl rfl) h0;obtain⟨a1,r1,w1⟩:=Qv (hval 1 33 v1 rfl rfl) h1;obtain⟨a2,r2,w2⟩:=yv Tryz.underlying3 (hval 2 3 v2 rfl rfl) h2;obtain⟨a3,r3,w3⟩:=yv Tryz.underlying5 (hval 3 5 v3 rfl rfl) h3;obtain⟨a4,r4,w4⟩:=yv Tryz.underlying34 (hval 4 34 v4 rfl rfl) h4;refine(IY (args:=[.agg a0.cells,.agg a1.cells,.lit (.int .i64 a2),.lit (.int .u8 a3),.lit (.int .u64 a4)]) (SX a0 w0 a1.x.w a1.x.w5 a1.x.a a1.x.r a1.x.n5 a1.x.n a1.y.w a1.y.w5 a1.y.a a1.y.r a1.y.n5 a1.y.n w1.x.w w1.x.w5 w1.x.a w1.x.r w1.y.w w1.y.w5 w1.y.a w1.y.r a2 a3 (sU w3) a4 (SV w4) cw _ fun H' _=>⟨_,rfl,.lit _⟩) (PI W) ⟨rfl,fun i hi _=>match i,hi with|0,_=>r0|1,_=>r1|2,_=>r2|3,_=>r3|4,_=>r4⟩).mono fun e W' ⟨he,hb,hz⟩=>?_;subst he;exact⟨_,rfl,I2 Tryz.laidOut (by rw[Tryz.params3];rfl) rfl aay Tryz.Qm (fun ds hd=>by
  rw[Tryz.params3]at hd
  match ds,hd with
  | [x0,x1,x2,x3,x4],_=>rfl) hW' hb hz⟩
theorem worthOpens_holds:Rows.WorthOpensSaid :=
 OpenClaim.holds_of_wide 3 Tryz.f3 rfl rfl rfl rfl rfl rfl rfl ⟨rfl,rfl,rfl,rfl,rfl⟩ rfl rfl rfl rfl rfl aay Tryz.func3 (aay)
  (of_decide_eq_true aay) (by unfold Func.isWrapper;first|(rw[W8 (by decide +kernel)];kernel_rfl)|(rw[W7 (by decide +kernel)];exact⟨rfl,rfl⟩))
  (fun os started H enc _=>worthOpens_lifted os started H enc)
end Go.Proofs.YtebhdkihcdmmjaaGreat
