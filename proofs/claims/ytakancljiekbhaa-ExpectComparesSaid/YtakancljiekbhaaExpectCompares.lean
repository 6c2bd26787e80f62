/-
  ExpectCompares: for every input the law returns true, and its arguments read afterwards as before. No conditions.
-/
import Derived.Test.YtakancljiekbhaaRows
import Derived.Test.YtakancljiekbhaaConF
import Derived.Test.YtakancljiekbhaaConG
import Derived.ProofKit
set_option linter.all false
namespace Go.Proofs.Ytakancljiekbhaa
open Go.ChangeShapes Go.WideShapes Go.ChangeAt Go.RowKit Go.Hx
set_option maxRecDepth 100000 in
theorem expectCompares_lifted (os:Os)(started:os.Started)(H:Type)(enc:TypeId × Value->H):
  ReturnsInHanded {} Try.checked os 5 .any (Rows.expectComparesSpec.pre6 enc Try.prog Try.f5 Rows.expectComparesRow.domain false) (Rows.expectComparesSpec.post enc Try.prog Try.f5 false true false false):=by
 refine returnsInHanded_of_change (C:=Try.checked) Try.own started (by kernel_rfl) Try.func5
  (ChangeSpec.witness6 (enc:=enc) (C:=Try.checked) false ⟨#[],#[.agg #[.int .u8 0,.slice none 0 0,.slice none 0 0,.int .u8 0,.int .u8 0,.int .u8 0,.int .i64 0,.slice none 0 0,.slice none 0 0,.int .u8 0,.int .u8 0,.int .i64 0],.agg #[.int .u8 0,.slice none 0 0,.slice none 0 0]],[]⟩ 8 (by kernel_rfl) (by kernel_rfl) (by kernel_rfl) (by kernel_rfl)) ?_
 intro W base args ds gs before hval0 hW hcnd _;have hval:∀ (j:Nat) t v,Try.f5.params[j]?=some t->args[j]?=some v->Value.okWide Try.prog W .any base t v:=hval0;have hW':=hW;obtain⟨p,q,hA0,hV,rfl,hfz,hnd⟩:=hW;have hA:DataW.TrodAll enc Try.prog W 0 (fun _=>true) true Try.f5.params.toList args.toList ds p:=hA0;rw[Try.params5]at hA hval;obtain⟨v0,v1,d0,d1,p0,p1,rfl,rfl,rfl,h0,h1⟩:=trodAll_two hA;obtain⟨a0,r0,w0⟩:=Mf (hval 0 32 v0 rfl rfl) h0;obtain⟨a1,r1,w1⟩:=Me (hval 1 25 v1 rfl rfl) h1;refine(CN (args:=[.agg a0.cells,.agg a1.cells]) (L1 a0.g0 a0.ps a0.ord w0.g w0.p w0.pl w0.ol w0.o8 a0.cw a0.ca a0.cr a0.cn w0.cw w0.ca w0.cr a0.ws a0.ms w0.ws w0.ms w0.wl w0.ml a0.bw a0.ba a0.bn w0.bw w0.ba a1.g a1.ps a1.ord w1.g w1.p w1.pl w1.ol w1.o8 cF _ fun H' _=>⟨_,rfl,.lit _⟩) (Ka W) ⟨rfl,fun i hi _=>match i,hi with|0,_=>r0|1,_=>r1⟩).mono fun e W' ⟨he,hb,hz⟩=>?_;subst he;exact⟨_,rfl,CR Try.laidOut (by rw[Try.params5];rfl) rfl (by kernel_rfl) Try.L7 (fun ds hd=>by
  rw[Try.params5]at hd
  match ds,hd with
  | [x0,x1],_=>rfl) hW' hb hz⟩
theorem expectCompares_holds:Rows.ExpectComparesSaid :=
 OpenClaim.holds_of_wide 5 Try.f5 rfl rfl rfl rfl rfl rfl rfl ⟨rfl,rfl,rfl,rfl,rfl⟩ rfl rfl rfl rfl rfl (by kernel_rfl) Try.func5 (by kernel_rfl)
  (of_decide_eq_true (by kernel_rfl)) (by unfold Func.isWrapper;first|(rw[Pv (by decide +kernel)];kernel_rfl)|(rw[Pt (by decide +kernel)];exact⟨rfl,rfl⟩))
  (fun os started H enc _=>expectCompares_lifted os started H enc)
end Go.Proofs.Ytakancljiekbhaa
