/-
  MemoryGreatest: for every input the law returns true, and its arguments read afterwards as before. No conditions.
-/
import Derived.Test.YteolcdbjdgimhaaGreatRows
import Derived.Test.YteolcdbjdgimhaaGreatConE
import Derived.Test.YteolcdbjdgimhaaGreatConK
import Derived.ProofKit
set_option linter.all false
namespace Go.Proofs.YteolcdbjdgimhaaGreat
open Go.ChangeShapes Go.WideShapes Go.ChangeAt Go.RowKit Go.Hx
set_option maxRecDepth 100000 in
theorem memoryGreatest_lifted (os:Os)(started:os.Started)(H:Type)(enc:TypeId × Value->H):
  ReturnsInHanded {} Tryz.checked os 5 .any (Rows.memoryGreatestSpec.pre6 enc Tryz.prog Tryz.f5 Rows.memoryGreatestRow.domain false) (Rows.memoryGreatestSpec.post enc Tryz.prog Tryz.f5 false true false false):=by
 refine returnsInHanded_of_change (C:=Tryz.checked) Tryz.U started ZH Tryz.func5
  (ChangeSpec.witness6 (enc:=enc) (C:=Tryz.checked) false ⟨#[],#[.agg #[.int .u8 0,.slice none 0 0,.slice none 0 0,.int .u8 0,.bool false,.slice none 0 0],.slice none 0 0,.int .u16 0],[]⟩ 8 ZH ZH ZH ZH) ?_
 intro W base args ds gs before hval0 hW hcnd _;have hval:∀(j:Nat) t v,Tryz.f5.params[j]?=some t->args[j]?=some v->Value.okWide Tryz.prog W .any base t v:=hval0;have hW':=hW;obtain⟨p,q,hA0,hV,rfl,hfz,hnd⟩:=hW;have hA:DataW.TrodAll enc Tryz.prog W 0 (fun _=>true) true Tryz.f5.params.toList args.toList ds p:=hA0;rw[Tryz.params5]at hA hval;obtain⟨v0,v1,v2,d0,d1,d2,p0,p1,p2,rfl,rfl,rfl,h0,h1,h2⟩:=trodAll_three hA;obtain⟨a0,r0,w0⟩:=MY (hval 0 28 v0 rfl rfl) h0;obtain⟨a1,r1,l1,w1⟩:=MZ (hval 1 23 v1 rfl rfl) h1;obtain⟨a2,r2,w2⟩:=Ij Tryz.underlying68 (hval 2 68 v2 rfl rfl) h2;refine(GK (args:=[.agg a0.cells,.Q a1.length (cu a1),.lit (.int .u16 a2)]) (QB a0 w0 a1 l1 w1 a2 (by have:=MT w2;omega) cZ _ fun H' _=>⟨_,rfl,.lit _⟩) (MQ W) ⟨rfl,fun i hi _=>match i,hi with|0,_=>r0|1,_=>r1|2,_=>r2⟩).mono fun e W' ⟨he,hb,hz⟩=>?_;subst he;exact⟨_,rfl,GO Tryz.laidOut (by rw[Tryz.params5];rfl) rfl ZH Tryz.MS (fun ds hd=>by
  rw[Tryz.params5]at hd
  match ds,hd with
  | [x0,x1,x2],_=>rfl) hW' hb hz⟩
theorem memoryGreatest_holds:Rows.MemoryGreatestSaid :=
 OpenClaim.holds_of_wide 5 Tryz.f5 rfl rfl rfl rfl rfl rfl rfl ⟨rfl,rfl,rfl,rfl,rfl⟩ rfl rfl rfl rfl rfl ZH Tryz.func5 (ZH)
  (of_decide_eq_true ZH) (by unfold Func.isWrapper;first|(rw[VA (by decide +kernel)];kernel_rfl)|(rw[Vx (by decide +kernel)];exact⟨rfl,rfl⟩))
  (fun os started H enc _=>memoryGreatest_lifted os started H enc)
end Go.Proofs.YteolcdbjdgimhaaGreat
