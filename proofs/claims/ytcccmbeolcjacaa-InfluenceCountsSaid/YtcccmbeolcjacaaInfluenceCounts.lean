/-
  InfluenceCounts: for every input the law returns true, and its arguments read afterwards as before. No conditions.
-/
import Derived.Test.YtcccmbeolcjacaaRows
import Derived.Test.YtcccmbeolcjacaaConF
import Derived.Test.YtcccmbeolcjacaaConH
import Derived.ProofKit
set_option linter.all false
namespace Go.Proofs.Ytcccmbeolcjacaa
open Go.ChangeShapes Go.WideShapes Go.ChangeAt Go.RowKit Go.Hx
set_option maxRecDepth 100000 in
theorem influenceCounts_lifted (os:Os)(started:os.Started)(H:Type)(enc:TypeId × Value->H):
  ReturnsInHanded {} Try.checked os 3 .any (Rows.influenceCountsSpec.pre6 enc Try.prog Try.f3 Rows.influenceCountsRow.domain false) (Rows.influenceCountsSpec.post enc Try.prog Try.f3 false true false false):=by
 refine returnsInHanded_of_change (C:=Try.checked) Try.V started Tw Try.func3
  (ChangeSpec.witness6 (enc:=enc) (C:=Try.checked) false ⟨#[],#[.agg #[.int .u8 0,.slice none 0 0,.slice none 0 0,.int .u8 0,.bool false,.slice none 0 0],.agg #[.int .u8 0,.int .u8 0,.int .u8 0,.int .u8 0,.int .i64 0,.int .i64 0,.int .u8 0,.int .u8 0,.int .u8 0,.int .u8 0,.int .i64 0,.int .i64 0],.int .i64 0,.int .u16 0],[]⟩ 8 Tw Tw Tw Tw) ?_
 intro W base args ds gs before hval0 hW hcnd _;have hval:∀(j:Nat) t v,Try.f3.params[j]?=some t->args[j]?=some v->Value.okWide Try.prog W .any base t v:=hval0;have hW':=hW;obtain⟨p,q,hA0,hV,rfl,hfz,hnd⟩:=hW;have hA:DataW.TrodAll enc Try.prog W 0 (fun _=>true) true Try.f3.params.toList args.toList ds p:=hA0;rw[Try.params3]at hA hval;obtain⟨v0,v1,v2,v3,d0,d1,d2,d3,p0,p1,p2,p3,rfl,rfl,rfl,h0,h1,h2,h3⟩:=trodAll_four hA;obtain⟨a0,r0,w0⟩:=Ln (hval 0 28 v0 rfl rfl) h0;obtain⟨a1,r1,w1⟩:=Lr (hval 1 33 v1 rfl rfl) h1;obtain⟨a2,r2,w2⟩:=yF Try.underlying3 (hval 2 3 v2 rfl rfl) h2;obtain⟨a3,r3,w3⟩:=yF Try.underlying34 (hval 3 34 v3 rfl rfl) h3;refine(Dd (args:=[.agg a0.cells,.agg a1.cells,.lit (.int .i64 a2),.lit (.int .u16 a3)]) (MS a0 w0 a1.x.w a1.x.w5 a1.x.a a1.x.r a1.x.n5 a1.x.n a1.y.w a1.y.w5 a1.y.a a1.y.r a1.y.n5 a1.y.n w1.x.w w1.x.w5 w1.x.a w1.x.r w1.y.w w1.y.w5 w1.y.a w1.y.r a2 (by have:=wf_i64 w2;omega) a3 (by have:=Li w3;omega) cj _ fun H' _=>⟨_,rfl,.lit _⟩) (KB W) ⟨rfl,fun i hi _=>match i,hi with|0,_=>r0|1,_=>r1|2,_=>r2|3,_=>r3⟩).mono fun e W' ⟨he,hb,hz⟩=>?_;subst he;exact⟨_,rfl,Dh Try.laidOut (by rw[Try.params3];rfl) rfl Tw Try.Lh (fun ds hd=>by
  rw[Try.params3]at hd
  match ds,hd with
  | [x0,x1,x2,x3],_=>rfl) hW' hb hz⟩
theorem influenceCounts_holds:Rows.InfluenceCountsSaid :=
 OpenClaim.holds_of_wide 3 Try.f3 rfl rfl rfl rfl rfl rfl rfl ⟨rfl,rfl,rfl,rfl,rfl⟩ rfl rfl rfl rfl rfl Tw Try.func3 (Tw)
  (of_decide_eq_true Tw) (by unfold Func.isWrapper;first|(rw[PZ (by decide +kernel)];kernel_rfl)|(rw[PX (by decide +kernel)];exact⟨rfl,rfl⟩))
  (fun os started H enc _=>influenceCounts_lifted os started H enc)
end Go.Proofs.Ytcccmbeolcjacaa
