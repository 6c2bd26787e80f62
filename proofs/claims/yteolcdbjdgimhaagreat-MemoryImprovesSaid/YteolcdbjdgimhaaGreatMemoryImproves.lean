/-
  MemoryImproves: for every input the law returns true, and its arguments read afterwards as before. No conditions.
-/
import Derived.Test.YteolcdbjdgimhaaGreatRows
import Derived.Test.YteolcdbjdgimhaaGreatConG
import Derived.Test.YteolcdbjdgimhaaGreatConK
import Derived.ProofKit
set_option linter.all false
namespace Go.Proofs.YteolcdbjdgimhaaGreat
open Go.ChangeShapes Go.WideShapes Go.ChangeAt Go.RowKit Go.Hx
theorem trodAll6 {H:Type}{enc:TypeId × Value->H}{P:Program}{w:World}{base:Nat}{spare:Nat->Bool}{held:Bool}{t0 t1 t2 t3 t4 t5:TypeId}{args:Array Value}{ds:List (DataW H)}{ps:List MemPlace}(h:DataW.TrodAll enc P w base spare held [t0,t1,t2,t3,t4,t5] args.toList ds ps):
  ∃v0 v1 v2 v3 v4 v5 d0 d1 d2 d3 d4 d5 p0 p1 p2 p3 p4 p5,args=#[v0,v1,v2,v3,v4,v5]/\ds=[d0,d1,d2,d3,d4,d5]/\ps=p0++p1++p2++p3++p4++p5/\DataW.Trod enc P w base spare held t0 v0 d0 p0/\DataW.Trod enc P w base spare held t1 v1 d1 p1/\DataW.Trod enc P w base spare held t2 v2 d2 p2/\DataW.Trod enc P w base spare held t3 v3 d3 p3/\DataW.Trod enc P w base spare held t4 v4 d4 p4/\DataW.Trod enc P w base spare held t5 v5 d5 p5:=by
 obtain⟨v0,w0,d0,e0,p0,q0,hargs,rfl,rfl,h0,r0⟩:=trodAll_cons h;obtain⟨v1,w1,d1,e1,p1,q1,rfl,rfl,rfl,h1,r1⟩:=trodAll_cons r0;obtain⟨v2,w2,d2,e2,p2,q2,rfl,rfl,rfl,h2,r2⟩:=trodAll_cons r1;obtain⟨v3,w3,d3,e3,p3,q3,rfl,rfl,rfl,h3,r3⟩:=trodAll_cons r2;obtain⟨v4,w4,d4,e4,p4,q4,rfl,rfl,rfl,h4,r4⟩:=trodAll_cons r3;obtain⟨v5,w5,d5,e5,p5,q5,rfl,rfl,rfl,h5,r5⟩:=trodAll_cons r4;obtain⟨rfl,rfl,rfl⟩:=trodAll_nil r5;exact⟨v0,v1,v2,v3,v4,v5,d0,d1,d2,d3,d4,d5,p0,p1,p2,p3,p4,p5,by cases args;simp_all,rfl,by simp,h0,h1,h2,h3,h4,h5⟩
set_option maxRecDepth 100000 in
theorem memoryImproves_lifted (os:Os)(started:os.Started)(H:Type)(enc:TypeId × Value->H):
  ReturnsInHanded {} Tryz.checked os 3 .any (Rows.memoryImprovesSpec.pre6 enc Tryz.prog Tryz.f3 Rows.memoryImprovesRow.domain false) (Rows.memoryImprovesSpec.post enc Tryz.prog Tryz.f3 false true false false):=by
 refine returnsInHanded_of_change (C:=Tryz.checked) Tryz.own started (by kernel_rfl) Tryz.func3
  (ChangeSpec.witness6 (enc:=enc) (C:=Tryz.checked) false ⟨#[],#[.agg #[.int .u8 0,.slice none 0 0,.slice none 0 0,.int .u8 0,.bool false,.slice none 0 0],.agg #[.int .u8 0,.int .u8 0,.int .u8 0,.int .u8 0,.int .i64 0,.int .i64 0],.slice none 0 0,.int .u8 0,.int .i64 0,.slice none 0 0],[]⟩ 8 (by kernel_rfl) (by kernel_rfl) (by kernel_rfl) (by kernel_rfl)) ?_
 intro W base args ds gs before hval0 hW hcnd _;have hval:∀(j:Nat) t v,Tryz.f3.params[j]?=some t->args[j]?=some v->Value.okWide Tryz.prog W .any base t v:=hval0;have hW':=hW;obtain⟨p,q,hA0,hV,rfl,hfz,hnd⟩:=hW;have hA:DataW.TrodAll enc Tryz.prog W 0 (fun _=>true) true Tryz.f3.params.toList args.toList ds p:=hA0;rw[Tryz.params3]at hA hval;obtain⟨v0,v1,v2,v3,v4,v5,d0,d1,d2,d3,d4,d5,p0,p1,p2,p3,p4,p5,rfl,rfl,rfl,h0,h1,h2,h3,h4,h5⟩:=trodAll6 hA;obtain⟨a0,r0,w0⟩:=LG (hval 0 28 v0 rfl rfl) h0;obtain⟨a1,r1,w1⟩:=LK (hval 1 32 v1 rfl rfl) h1;obtain⟨a2,r2,l2,w2⟩:=LH (hval 2 23 v2 rfl rfl) h2;obtain⟨a3,r3,w3⟩:=AK Tryz.underlying5 (hval 3 5 v3 rfl rfl) h3;obtain⟨a4,r4,w4⟩:=AK Tryz.underlying3 (hval 4 3 v4 rfl rfl) h4;obtain⟨a5,r5,l5,w5⟩:=FR Tryz.underlying33 Tryz.underlying42 Tryz.underlying3 Tryz.dz Tryz.jv (hval 5 33 v5 rfl rfl) h5;refine(Ez (args:=[.agg a0.cells,.agg a1.cells,.vec a2.length (bZ a2),.lit (.int .u8 a3),.lit (.int .i64 a4),aj a5]) (NU a0 w0 a1.w a1.w5 a1.a a1.r a1.n5 a1.n w1.w w1.w5 w1.a w1.r a2 l2 w2 a3 a4 (r9 w3) a5 (nD l5) (fun r hr=>nD (w5 r hr).1) cz _ fun H' _=>⟨_,rfl,.lit _⟩) (K5 W) ⟨rfl,fun i hi _=>match i,hi with|0,_=>r0|1,_=>r1|2,_=>r2|3,_=>r3|4,_=>r4|5,_=>r5⟩).mono fun e W' ⟨he,hb,hz⟩=>?_;subst he;exact⟨_,rfl,ED Tryz.laidOut (by rw[Tryz.params3];rfl) rfl (by kernel_rfl) Tryz.LA (fun ds hd=>by
  rw[Tryz.params3]at hd
  match ds,hd with
  | [x0,x1,x2,x3,x4,x5],_=>rfl) hW' hb hz⟩
theorem memoryImproves_holds:Rows.MemoryImprovesSaid :=
 OpenClaim.holds_of_wide 3 Tryz.f3 rfl rfl rfl rfl rfl rfl rfl ⟨rfl,rfl,rfl,rfl,rfl⟩ rfl rfl rfl rfl rfl (by kernel_rfl) Tryz.func3 (by kernel_rfl)
  (of_decide_eq_true (by kernel_rfl)) (by unfold Func.isWrapper;first|(rw[SK (by decide +kernel)];kernel_rfl)|(rw[SI (by decide +kernel)];exact⟨rfl,rfl⟩))
  (fun os started H enc _=>memoryImproves_lifted os started H enc)
end Go.Proofs.YteolcdbjdgimhaaGreat
