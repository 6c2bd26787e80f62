/-
  MemoryEnds: for every input the law returns true, and its arguments read afterwards as before. No conditions.
-/
import Derived.Test.YteolcdbjdgimhaaRows
import Derived.Test.YteolcdbjdgimhaaConC
import Derived.Test.YteolcdbjdgimhaaConD
import Derived.ProofKit
set_option linter.all false
set_option linter.unusedSimpArgs false
namespace Go.Proofs.Yteolcdbjdgimhaa
open Go.ChangeShapes Go.WideShapes Go.ChangeAt Go.RowKit Go.Hx
set_option maxRecDepth 100000 in
theorem memoryEnds_lifted (os:Os)(started:os.Started)(H:Type)(enc:TypeId × Value→H):
  ReturnsInHanded {} Try.checked os 3 .any (Rows.memoryEndsSpec.pre6 enc Try.prog Try.f3 Rows.memoryEndsRow.domain false) (Rows.memoryEndsSpec.post enc Try.prog Try.f3 false true false false):=by
 refine returnsInHanded_of_change (C:=Try.checked) Try.own started (by kernel_rfl) Try.func3
  (ChangeSpec.witness6 (enc:=enc) (C:=Try.checked) false ⟨#[],#[.agg #[.int .u8 0,.slice none 0 0,.slice none 0 0,.int .u8 0,.bool false,.slice none 0 0],.slice none 0 0],[]⟩ 8 (by kernel_rfl) (by kernel_rfl) (by kernel_rfl) (by kernel_rfl)) ?_
 intro W base args ds gs before hval0 hW hcnd _
 have hval:∀ (j:Nat) t v,Try.f3.params[j]?=some t→args[j]?=some v→Value.okWide Try.prog W .any base t v:=hval0
 have hW':=hW
 obtain⟨p,q,hA0,hV,rfl,hfz,hnd⟩:=hW
 have hA:DataW.TrodAll enc Try.prog W 0 (fun _=>true) true Try.f3.params.toList args.toList ds p:=hA0
 rw[Try.params3]at hA hval
 obtain⟨v0,v1,d0,d1,p0,p1,rfl,rfl,rfl,h0,h1⟩:=trodAll_two hA
 obtain⟨a0,r0,w0⟩:=arg_d20 (hval 0 28 v0 rfl rfl) h0
 obtain⟨a1,r1,l1,w1⟩:=arg_bytes (hval 1 23 v1 rfl rfl) h1
 refine(calls_true (args:=[.agg a0.cells,.vec a1.length (bytesL a1)]) (ends_spec a0 w0 a1 l1 w1 noH _ fun H' _=>⟨_,rfl,.lit _⟩) (noGl_glob W) ⟨rfl,fun i hi _=>match i,hi with|0,_=>r0|1,_=>r1⟩).mono fun e W' ⟨he,hb,hz⟩=>?_
 subst he
 exact⟨_,rfl,law_post Try.laidOut (by rw[Try.params3];rfl) rfl (by kernel_rfl) Try.boolT (fun ds hd=>by
  rw[Try.params3]at hd
  match ds,hd with
  | [x0,x1],_=>rfl) hW' hb hz⟩
theorem memoryEnds_holds:Rows.MemoryEndsSaid :=
 OpenClaim.holds_of_wide 3 Try.f3 rfl rfl rfl rfl rfl rfl rfl ⟨rfl,rfl,rfl,rfl,rfl⟩ rfl rfl rfl rfl rfl (by kernel_rfl) Try.func3 (by kernel_rfl)
  (of_decide_eq_true (by kernel_rfl)) (by unfold Func.isWrapper;first|(rw[if_pos (by decide +kernel)];kernel_rfl)|(rw[if_neg (by decide +kernel)];exact⟨rfl,rfl⟩))
  (fun os started H enc _=>memoryEnds_lifted os started H enc)
end Go.Proofs.Yteolcdbjdgimhaa
