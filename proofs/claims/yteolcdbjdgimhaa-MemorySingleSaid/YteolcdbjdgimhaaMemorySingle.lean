/-
  MemorySingle: for every input the law returns true, and its arguments read afterwards as before. No conditions.
-/
import Derived.Test.YteolcdbjdgimhaaRows
import Derived.Test.YteolcdbjdgimhaaConC
import Derived.Test.YteolcdbjdgimhaaConD
import Derived.ProofKit
set_option linter.all false
namespace Go.Proofs.Yteolcdbjdgimhaa
open Go.ChangeShapes Go.WideShapes Go.ChangeAt Go.RowKit Go.Hx
set_option maxRecDepth 100000 in
theorem memorySingle_lifted (os:Os)(started:os.Started)(H:Type)(enc:TypeId × Value->H):
  ReturnsInHanded {} Try.checked os 4 .any (Rows.memorySingleSpec.pre6 enc Try.prog Try.f4 Rows.memorySingleRow.domain false) (Rows.memorySingleSpec.post enc Try.prog Try.f4 false true false false):=by
 refine returnsInHanded_of_change (C:=Try.checked) Try.own started (by kernel_rfl) Try.func4
  (ChangeSpec.witness6 (enc:=enc) (C:=Try.checked) false ⟨#[],#[.agg #[.int .u8 0,.slice none 0 0,.slice none 0 0,.int .u8 0,.bool false,.slice none 0 0],.slice none 0 0,.slice none 0 0],[]⟩ 8 (by kernel_rfl) (by kernel_rfl) (by kernel_rfl) (by kernel_rfl)) ?_
 intro W base args ds gs before hval0 hW hcnd _
 have hval:∀ (j:Nat) t v,Try.f4.params[j]?=some t->args[j]?=some v->Value.okWide Try.prog W .any base t v:=hval0
 have hW':=hW
 obtain⟨p,q,hA0,hV,rfl,hfz,hnd⟩:=hW
 have hA:DataW.TrodAll enc Try.prog W 0 (fun _=>true) true Try.f4.params.toList args.toList ds p:=hA0
 rw[Try.params4]at hA hval
 obtain⟨v0,v1,v2,d0,d1,d2,p0,p1,p2,rfl,rfl,rfl,h0,h1,h2⟩:=trodAll_three hA
 obtain⟨a0,r0,w0⟩:=arg_d20 (hval 0 28 v0 rfl rfl) h0
 obtain⟨a1,r1,l1,w1⟩:=arg_bytes (hval 1 23 v1 rfl rfl) h1
 obtain⟨a2,r2,l2,w2⟩:=arg_bytes (hval 2 23 v2 rfl rfl) h2
 refine(calls_true (args:=[.agg a0.cells,.vec a1.length (bytesL a1),.vec a2.length (bytesL a2)]) (single_spec a0 w0 a1 l1 w1 a2 l2 w2 noH _ fun H' _=>⟨_,rfl,.lit _⟩) (noGl_glob W) ⟨rfl,fun i hi _=>match i,hi with|0,_=>r0|1,_=>r1|2,_=>r2⟩).mono fun e W' ⟨he,hb,hz⟩=>?_
 subst he
 exact⟨_,rfl,law_post Try.laidOut (by rw[Try.params4];rfl) rfl (by kernel_rfl) Try.boolT (fun ds hd=>by
  rw[Try.params4]at hd
  match ds,hd with
  | [x0,x1,x2],_=>rfl) hW' hb hz⟩
theorem memorySingle_holds:Rows.MemorySingleSaid :=
 OpenClaim.holds_of_wide 4 Try.f4 rfl rfl rfl rfl rfl rfl rfl ⟨rfl,rfl,rfl,rfl,rfl⟩ rfl rfl rfl rfl rfl (by kernel_rfl) Try.func4 (by kernel_rfl)
  (of_decide_eq_true (by kernel_rfl)) (by unfold Func.isWrapper;first|(rw[if_pos (by decide +kernel)];kernel_rfl)|(rw[if_neg (by decide +kernel)];exact⟨rfl,rfl⟩))
  (fun os started H enc _=>memorySingle_lifted os started H enc)
end Go.Proofs.Yteolcdbjdgimhaa
