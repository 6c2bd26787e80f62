/-
  ExpectWhole: for every input the law returns true, and its arguments read afterwards as before. No conditions.
-/
import Derived.Test.YtakancljiekbhaaRows
import Derived.Test.YtakancljiekbhaaConE
import Derived.Test.YtakancljiekbhaaConG
import Derived.ProofKit
set_option linter.all false
namespace Go.Proofs.Ytakancljiekbhaa
open Go.ChangeShapes Go.WideShapes Go.ChangeAt Go.RowKit Go.Hx
set_option maxRecDepth 100000 in
theorem expectWhole_lifted (os:Os)(started:os.Started)(H:Type)(enc:TypeId × Value->H):
  ReturnsInHanded {} Try.checked os 8 .any (Rows.expectWholeSpec.pre6 enc Try.prog Try.f8 Rows.expectWholeRow.domain false) (Rows.expectWholeSpec.post enc Try.prog Try.f8 false true false false):=by
 refine returnsInHanded_of_change (C:=Try.checked) Try.own started (by kernel_rfl) Try.func8
  (ChangeSpec.witness6 (enc:=enc) (C:=Try.checked) false ⟨#[],#[.agg #[.int .u8 0,.slice none 0 0,.slice none 0 0,.int .u8 0,.int .u8 0,.int .u8 0,.int .i64 0,.slice none 0 0,.slice none 0 0,.int .u8 0,.int .u8 0,.int .i64 0],.int .u8 0],[]⟩ 8 (by kernel_rfl) (by kernel_rfl) (by kernel_rfl) (by kernel_rfl)) ?_
 intro W base args ds gs before hval0 hW hcnd _;have hval:∀ (j:Nat) t v,Try.f8.params[j]?=some t->args[j]?=some v->Value.okWide Try.prog W .any base t v:=hval0;have hW':=hW;obtain⟨p,q,hA0,hV,rfl,hfz,hnd⟩:=hW;have hA:DataW.TrodAll enc Try.prog W 0 (fun _=>true) true Try.f8.params.toList args.toList ds p:=hA0;rw[Try.params8]at hA hval;obtain⟨v0,v1,d0,d1,p0,p1,rfl,rfl,rfl,h0,h1⟩:=trodAll_two hA;obtain⟨a0,r0,w0⟩:=Nu (hval 0 32 v0 rfl rfl) h0;obtain⟨a1,r1,w1⟩:=Fo Try.underlying5 (hval 1 5 v1 rfl rfl) h1;refine(D3 (args:=[.agg a0.cells,.lit (.int .u8 a1)]) (Nj a0.g0 a0.ps a0.ord w0.g w0.p w0.pl w0.ol w0.o8 a0.cw a0.ca a0.cr a0.cn a0.ws a0.ms w0.ws w0.ms w0.wl w0.ml a0.bw a0.ba a0.bn a1 (j8 w1) bU _ fun H' _=>⟨_,rfl,.lit _⟩) (LN W) ⟨rfl,fun i hi _=>match i,hi with|0,_=>r0|1,_=>r1⟩).mono fun e W' ⟨he,hb,hz⟩=>?_;subst he;exact⟨_,rfl,D7 Try.laidOut (by rw[Try.params8];rfl) rfl (by kernel_rfl) Try.Nm (fun ds hd=>by
  rw[Try.params8]at hd
  match ds,hd with
  | [x0,x1],_=>rfl) hW' hb hz⟩
theorem expectWhole_holds:Rows.ExpectWholeSaid :=
 OpenClaim.holds_of_wide 8 Try.f8 rfl rfl rfl rfl rfl rfl rfl ⟨rfl,rfl,rfl,rfl,rfl⟩ rfl rfl rfl rfl rfl (by kernel_rfl) Try.func8 (by kernel_rfl)
  (of_decide_eq_true (by kernel_rfl)) (by unfold Func.isWrapper;first|(rw[RC (by decide +kernel)];kernel_rfl)|(rw[RB (by decide +kernel)];exact⟨rfl,rfl⟩))
  (fun os started H enc _=>expectWhole_lifted os started H enc)
end Go.Proofs.Ytakancljiekbhaa
