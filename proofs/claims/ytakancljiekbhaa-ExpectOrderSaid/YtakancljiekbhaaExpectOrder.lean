/-
  ExpectOrder: for every input the law returns true, and its arguments read afterwards as before. No conditions.
-/
import Derived.Test.YtakancljiekbhaaRows
import Derived.Test.YtakancljiekbhaaConG
import Derived.Test.YtakancljiekbhaaConI
import Derived.ProofKit
set_option linter.all false
namespace Go.Proofs.Ytakancljiekbhaa
open Go.ChangeShapes Go.WideShapes Go.ChangeAt Go.RowKit Go.Hx
set_option maxRecDepth 100000 in
theorem expectOrder_lifted (os:Os)(started:os.Started)(H:Type)(enc:TypeId × Value->H):
  ReturnsInHanded {} Try.checked os 7 .any (Rows.expectOrderSpec.pre6 enc Try.prog Try.f7 Rows.expectOrderRow.domain false) (Rows.expectOrderSpec.post enc Try.prog Try.f7 false true false false):=by
 refine returnsInHanded_of_change (C:=Try.checked) Try.own started (by kernel_rfl) Try.func7
  (ChangeSpec.witness6 (enc:=enc) (C:=Try.checked) false ⟨#[],#[.agg #[.int .u8 0,.slice none 0 0,.slice none 0 0,.int .u8 0,.int .u8 0,.int .u8 0,.int .i64 0,.slice none 0 0,.slice none 0 0,.int .u8 0,.int .u8 0,.int .i64 0]],[]⟩ 8 (by kernel_rfl) (by kernel_rfl) (by kernel_rfl) (by kernel_rfl)) ?_
 intro W base args ds gs before hval0 hW hcnd _;have hval:∀ (j:Nat) t v,Try.f7.params[j]?=some t->args[j]?=some v->Value.okWide Try.prog W .any base t v:=hval0;have hW':=hW;obtain⟨p,q,hA0,hV,rfl,hfz,hnd⟩:=hW;have hA:DataW.TrodAll enc Try.prog W 0 (fun _=>true) true Try.f7.params.toList args.toList ds p:=hA0;rw[Try.params7]at hA hval;obtain⟨v0,d0,rfl,rfl,h0⟩:=trodAll_one hA;obtain⟨a0,r0,w0⟩:=OH (hval 0 32 v0 rfl rfl) h0;refine(ES (args:=[.agg a0.cells]) (Ov a0.g0 a0.ps a0.ord w0.g w0.p w0.pl w0.ol w0.o8 a0.cw a0.ca a0.cr a0.cn w0.cw w0.ca w0.cr a0.ws a0.ms w0.ws w0.ms w0.wl w0.ml a0.bw a0.ba a0.bn cJ _ fun H' _=>⟨_,rfl,.lit _⟩) (Mu W) ⟨rfl,fun i hi _=>match i,hi with|0,_=>r0⟩).mono fun e W' ⟨he,hb,hz⟩=>?_;subst he;exact⟨_,rfl,EW Try.laidOut (by rw[Try.params7];rfl) rfl (by kernel_rfl) Try.Oz (fun ds hd=>by
  rw[Try.params7]at hd
  match ds,hd with
  | [x0],_=>rfl) hW' hb hz⟩
theorem expectOrder_holds:Rows.ExpectOrderSaid :=
 OpenClaim.holds_of_wide 7 Try.f7 rfl rfl rfl rfl rfl rfl rfl ⟨rfl,rfl,rfl,rfl,rfl⟩ rfl rfl rfl rfl rfl (by kernel_rfl) Try.func7 (by kernel_rfl)
  (of_decide_eq_true (by kernel_rfl)) (by unfold Func.isWrapper;first|(rw[if_pos (by decide +kernel)];kernel_rfl)|(rw[if_neg (by decide +kernel)];exact⟨rfl,rfl⟩))
  (fun os started H enc _=>expectOrder_lifted os started H enc)
end Go.Proofs.Ytakancljiekbhaa
