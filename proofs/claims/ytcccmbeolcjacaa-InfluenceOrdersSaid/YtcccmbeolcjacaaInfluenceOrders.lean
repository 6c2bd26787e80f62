/-
  InfluenceOrders: for every input the law returns true, and its arguments read afterwards as before. No conditions.
-/
import Derived.Test.YtcccmbeolcjacaaRows
import Derived.Test.YtcccmbeolcjacaaConF
import Derived.Test.YtcccmbeolcjacaaConG
import Derived.ProofKit
set_option linter.all false
namespace Go.Proofs.Ytcccmbeolcjacaa
open Go.ChangeShapes Go.WideShapes Go.ChangeAt Go.RowKit Go.Hx
set_option maxRecDepth 100000 in
theorem influenceOrders_lifted (os:Os)(started:os.Started)(H:Type)(enc:TypeId × Value->H):
  ReturnsInHanded {} Try.checked os 5 .any (Rows.influenceOrdersSpec.pre6 enc Try.prog Try.f5 Rows.influenceOrdersRow.domain false) (Rows.influenceOrdersSpec.post enc Try.prog Try.f5 false true false false):=by
 refine returnsInHanded_of_change (C:=Try.checked) Try.V started SZ Try.func5
  (ChangeSpec.witness6 (enc:=enc) (C:=Try.checked) false ⟨#[],#[.agg #[.int .u8 0,.slice none 0 0,.slice none 0 0,.int .u8 0,.bool false,.slice none 0 0],.agg #[.int .u8 0,.int .u8 0,.int .u8 0,.int .u8 0,.int .i64 0,.int .i64 0,.int .u8 0,.int .u8 0,.int .u8 0,.int .u8 0,.int .i64 0,.int .i64 0]],[]⟩ 8 SZ SZ SZ SZ) ?_
 intro W base args ds gs before hval0 hW hcnd _;have hval:∀(j:Nat) t v,Try.f5.params[j]?=some t->args[j]?=some v->Value.okWide Try.prog W .any base t v:=hval0;have hW':=hW;obtain⟨p,q,hA0,hV,rfl,hfz,hnd⟩:=hW;have hA:DataW.TrodAll enc Try.prog W 0 (fun _=>true) true Try.f5.params.toList args.toList ds p:=hA0;rw[Try.params5]at hA hval;obtain⟨v0,v1,d0,d1,p0,p1,rfl,rfl,rfl,h0,h1⟩:=trodAll_two hA;obtain⟨a0,r0,w0⟩:=K3 (hval 0 28 v0 rfl rfl) h0;obtain⟨a1,r1,w1⟩:=K7 (hval 1 33 v1 rfl rfl) h1;refine(CV (args:=[.agg a0.cells,.agg a1.cells]) (NU a0 w0 a1.x.w a1.x.w5 a1.x.a a1.x.r a1.x.n5 a1.x.n a1.y.w a1.y.w5 a1.y.a a1.y.r a1.y.n5 a1.y.n w1.x.w w1.x.w5 w1.x.a w1.x.r w1.y.w w1.y.w5 w1.y.a w1.y.r bZ _ fun H' _=>⟨_,rfl,.lit _⟩) (Ki W) ⟨rfl,fun i hi _=>match i,hi with|0,_=>r0|1,_=>r1⟩).mono fun e W' ⟨he,hb,hz⟩=>?_;subst he;exact⟨_,rfl,CZ Try.laidOut (by rw[Try.params5];rfl) rfl SZ Try.KX (fun ds hd=>by
  rw[Try.params5]at hd
  match ds,hd with
  | [x0,x1],_=>rfl) hW' hb hz⟩
theorem influenceOrders_holds:Rows.InfluenceOrdersSaid :=
 OpenClaim.holds_of_wide 5 Try.f5 rfl rfl rfl rfl rfl rfl rfl ⟨rfl,rfl,rfl,rfl,rfl⟩ rfl rfl rfl rfl rfl SZ Try.func5 (SZ)
  (of_decide_eq_true SZ) (by unfold Func.isWrapper;first|(rw[PG (by decide +kernel)];kernel_rfl)|(rw[PC (by decide +kernel)];exact⟨rfl,rfl⟩))
  (fun os started H enc _=>influenceOrders_lifted os started H enc)
end Go.Proofs.Ytcccmbeolcjacaa
