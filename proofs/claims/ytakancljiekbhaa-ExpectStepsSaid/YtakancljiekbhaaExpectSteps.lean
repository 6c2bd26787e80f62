/-
  ExpectSteps: for every input the law returns true, and its arguments read afterwards as before. No conditions.
-/
import Derived.Test.YtakancljiekbhaaRows
import Derived.Test.YtakancljiekbhaaConH
import Derived.Test.YtakancljiekbhaaConI
import Derived.ProofKit
set_option linter.all false
namespace Go.Proofs.Ytakancljiekbhaa
open Go.ChangeShapes Go.WideShapes Go.ChangeAt Go.RowKit Go.Hx
set_option maxRecDepth 100000 in
theorem expectSteps_lifted (os:Os)(started:os.Started)(H:Type)(enc:TypeId × Value->H):
  ReturnsInHanded {} Try.checked os 4 .any (Rows.expectStepsSpec.pre6 enc Try.prog Try.f4 Rows.expectStepsRow.domain false) (Rows.expectStepsSpec.post enc Try.prog Try.f4 false true false false):=by
 refine returnsInHanded_of_change (C:=Try.checked) Try.own started (by kernel_rfl) Try.func4
  (ChangeSpec.witness6 (enc:=enc) (C:=Try.checked) false ⟨#[],#[.agg #[.int .u8 0,.slice none 0 0,.slice none 0 0,.int .u8 0,.int .u8 0,.int .u8 0,.int .i64 0,.slice none 0 0,.slice none 0 0,.int .u8 0,.int .u8 0,.int .i64 0],.int .i64 0,.int .u8 0],[]⟩ 8 (by kernel_rfl) (by kernel_rfl) (by kernel_rfl) (by kernel_rfl)) ?_
 intro W base args ds gs before hval0 hW hcnd _;have hval:∀ (j:Nat) t v,Try.f4.params[j]?=some t->args[j]?=some v->Value.okWide Try.prog W .any base t v:=hval0;have hW':=hW;obtain⟨p,q,hA0,hV,rfl,hfz,hnd⟩:=hW;have hA:DataW.TrodAll enc Try.prog W 0 (fun _=>true) true Try.f4.params.toList args.toList ds p:=hA0;rw[Try.params4]at hA hval;obtain⟨v0,v1,v2,d0,d1,d2,p0,p1,p2,rfl,rfl,rfl,h0,h1,h2⟩:=trodAll_three hA;obtain⟨a0,r0,w0⟩:=NS (hval 0 32 v0 rfl rfl) h0;obtain⟨a1,r1,w1⟩:=Ao Try.underlying3 (hval 1 3 v1 rfl rfl) h1;obtain⟨a2,r2,w2⟩:=Ao Try.underlying5 (hval 2 5 v2 rfl rfl) h2;refine(El (args:=[.agg a0.cells,.lit (.int .i64 a1),.lit (.int .u8 a2)]) (Nk a0.g0 a0.ps a0.ord w0.g w0.p w0.pl w0.ol w0.o8 a0.cw a0.ca a0.cr a0.cn w0.cw w0.ca w0.cr a0.ws a0.ms w0.ws w0.ms w0.wl w0.ml a0.bw a0.ba a0.bn w0.bw w0.ba a1 a2 (ke w2) cH _ fun H' _=>⟨_,rfl,.lit _⟩) (L2 W) ⟨rfl,fun i hi _=>match i,hi with|0,_=>r0|1,_=>r1|2,_=>r2⟩).mono fun e W' ⟨he,hb,hz⟩=>?_;subst he;exact⟨_,rfl,Ep Try.laidOut (by rw[Try.params4];rfl) rfl (by kernel_rfl) Try.NK (fun ds hd=>by
  rw[Try.params4]at hd
  match ds,hd with
  | [x0,x1,x2],_=>rfl) hW' hb hz⟩
theorem expectSteps_holds:Rows.ExpectStepsSaid :=
 OpenClaim.holds_of_wide 4 Try.f4 rfl rfl rfl rfl rfl rfl rfl ⟨rfl,rfl,rfl,rfl,rfl⟩ rfl rfl rfl rfl rfl (by kernel_rfl) Try.func4 (by kernel_rfl)
  (of_decide_eq_true (by kernel_rfl)) (by unfold Func.isWrapper;first|(rw[if_pos (by decide +kernel)];kernel_rfl)|(rw[if_neg (by decide +kernel)];exact⟨rfl,rfl⟩))
  (fun os started H enc _=>expectSteps_lifted os started H enc)
end Go.Proofs.Ytakancljiekbhaa
