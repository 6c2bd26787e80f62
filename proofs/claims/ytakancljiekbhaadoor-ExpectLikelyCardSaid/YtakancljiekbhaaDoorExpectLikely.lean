/-
  ExpectLikely: for every input the law returns true, and its arguments read afterwards as before (the tied card). No conditions.
-/
import Derived.Test.YtakancljiekbhaaDoorRows
import Derived.Test.YtakancljiekbhaaDoorCards
import Derived.Test.YtakancljiekbhaaDoorTie
import Derived.Test.YtakancljiekbhaaDoorConG
import Derived.Test.YtakancljiekbhaaDoorConI
import Derived.Test.YtakancljiekbhaaDoorLibC
import Derived.ProofKit
import Derived.LaidMore
import Derived.Stop.Joined
import Derived.SevenTiedAt
set_option linter.all false
namespace Go.Proofs.YtakancljiekbhaaDoor
open Go.ChangeShapes Go.WideShapes Go.ChangeAt Go.RowKit Go.Hx
set_option maxRecDepth 100000 in
theorem expectLikely_lifted (os:Os)(started:os.Started)(H:Type)(enc:TypeId × Value->H):
  ReturnsInHanded {} Tryd.checked os 3 .any (fun w args=>(Rows.expectLikelySpec.pre enc Tryd.prog Tryd.f3 [] false w args/\laidMetH Tryd.prog Rows.expectLikelyRow.laid w)/\sizedMet enc Tryd.prog Tryd.f3 (OpenSpec.ofChange Rows.expectLikelySpec) false w args)
   (Rows.expectLikelySpec.post enc Tryd.prog Tryd.f3 false true false false):=by
 refine returnsInHanded_of_change_and (C:=Tryd.checked) (X:=fun w _=>laidMetH Tryd.prog Rows.expectLikelyRow.laid w) (fun _ _ _ hh h=>h.of_heap hh) Tryd.own started (by kernel_rfl) Tryd.func3
  (ChangeSpec.witness_shaped (enc:=enc) (C:=Tryd.checked) (os:=os) (X:=fun w _=>laidMetH Tryd.prog Rows.expectLikelyRow.laid w) false (World.doorLaid Tryd.prog 400 os) #[.agg #[.int .u8 0,.slice none 0 0,.slice none 0 0,.int .u8 0,.int .u8 0,.int .u8 0,.int .i64 0,.slice none 0 0,.slice none 0 0,.int .u8 0,.int .u8 0,.int .i64 0]] 8 rfl (World.shaped_of_RefB (by kernel_rfl) (by kernel_rfl)) (by kernel_rfl) (by kernel_rfl) (by kernel_rfl) (Tryd.Qh os _)) ?_
 intro W base args ds gs before hval0 hW hcnd _ hL _;have hval:∀ (j:Nat) t v,Tryd.f3.params[j]?=some t->args[j]?=some v->Value.okWide Tryd.prog W .any base t v:=hval0;have hW':=hW;obtain⟨p,q,hA0,hV,rfl,hfz,hnd⟩:=hW;have hA:DataW.TrodAll enc Tryd.prog W 0 (fun _=>true) true Tryd.f3.params.toList args.toList ds p:=hA0;rw[Tryd.params3]at hA hval;obtain⟨v0,d0,rfl,rfl,h0⟩:=trodAll_one hA;obtain⟨rfl,rfl⟩:=trodVars_none hV;obtain⟨a0,r0,w0⟩:=Qq (hval 0 32 v0 rfl rfl) h0;refine(G3 (args:=[.agg a0.cells]) (UT a0.g0 a0.ps a0.ord w0.g w0.p w0.pl w0.ol w0.o8 a0.cw a0.ca a0.cr a0.cn w0.cw w0.ca w0.cr a0.ws a0.ms w0.ws w0.ms w0.wl w0.ml a0.bw a0.ba a0.bn cL _ fun H' _=>⟨_,rfl,.lit _⟩) (Tryd.Qi hL) ⟨rfl,fun i hi _=>match i,hi with|0,_=>r0⟩).mono fun e W' ⟨he,hb,hz⟩=>?_;subst he;exact⟨_,rfl,G7 Tryd.laidOut (by rw[Tryd.params3];kernel_rfl) rfl (by kernel_rfl) Tryd.Qc (fun ds hd=>by
  rw[Tryd.params3]at hd
  match ds,hd with
  | [x0],_=>rfl) hW' hb hz⟩
theorem expectLikely_row:Rows.ExpectLikelySaid :=
 OpenClaim.holds_of_wide 3 Tryd.f3 rfl rfl rfl rfl rfl rfl rfl ⟨rfl,rfl,rfl,rfl,rfl⟩ rfl rfl rfl rfl rfl (by kernel_rfl) Tryd.func3 (by kernel_rfl)
  (of_decide_eq_true (by kernel_rfl)) (by unfold Func.isWrapper;first|(rw[Vx (by decide +kernel)];kernel_rfl)|(rw[Vw (by decide +kernel)];exact⟨rfl,rfl⟩))
  (fun os started H enc _=>expectLikely_lifted os started H enc)
theorem expectLikely_holds:Rows.ExpectLikelyCardSaid :=
 Claim7.holds_tied_plain_at .later [] [.data] true Rows.expectLikelyCard.stood.harness false
  expectLikely_row (fun _ h=>by cases h) (by kernel_rfl) (fun _ h=>by cases h) expectLikely_row_tie rfl ⟨rfl,rfl⟩ (by kernel_rfl) rfl
  (fun f fn hf hfn=>by
   obtain rfl:f=3:=Option.some.inj ((show Tryd.prog.funcNamed Rows.expectLikelyRow.func=some 3 by kernel_rfl).symm.trans hf) |>.symm
   obtain rfl:fn=Tryd.f3:=(Option.some.inj (Tryd.func3.symm.trans hfn)).symm;exact⟨by kernel_rfl,fun j t ht=>by
    rw[Tryd.params3]at ht;have hm:t∈([32]:List TypeId):=(by simpa using Array.mem_of_getElem? ht);have hall:(([32]:List TypeId).all fun u=>!Tryd.prog.wantsStandIn u)=true:=(by kernel_rfl);exact(show Tryd.prog.wantsStandIn t=false by simpa using V1.1 hall t hm)⟩)
  (by kernel_rfl)
end Go.Proofs.YtakancljiekbhaaDoor
