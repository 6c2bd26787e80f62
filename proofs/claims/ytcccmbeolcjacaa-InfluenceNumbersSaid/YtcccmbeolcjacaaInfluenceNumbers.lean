/-
  InfluenceNumbers: for every input the law returns true, and its arguments read afterwards as before. No conditions.
-/
import Derived.Test.YtcccmbeolcjacaaRows
import Derived.Test.YtcccmbeolcjacaaConB
import Derived.Test.YtcccmbeolcjacaaConC
import Derived.ProofKit
set_option linter.all false
set_option linter.unusedSimpArgs false
namespace Go.Proofs.Ytcccmbeolcjacaa
open Go.ChangeShapes Go.WideShapes Go.ChangeAt Go.RowKit Go.Hx

set_option maxRecDepth 100000 in
theorem influenceNumbers_lifted (os : Os) (started : os.Started) (H : Type) (enc : TypeId × Value→H) :
  ReturnsInHanded {} Try.checked os 8 .any (Rows.influenceNumbersSpec.pre6 enc Try.prog Try.f8 Rows.influenceNumbersRow.domain false) (Rows.influenceNumbersSpec.post enc Try.prog Try.f8 false true false false):=by
 refine returnsInHanded_of_change (C:=Try.checked) Try.own started (by kernel_rfl) Try.func8
  (ChangeSpec.witness6 (enc:=enc) (C:=Try.checked) false ⟨#[],#[.agg #[.int .u8 0,.slice none 0 0,.slice none 0 0,.int .u8 0,.bool false,.slice none 0 0],.int .u16 0],[]⟩ 8 (by kernel_rfl) (by kernel_rfl) (by kernel_rfl) (by kernel_rfl)) ?_
 intro W base args ds gs before hval0 hW hcnd _
 have hval : ∀ (j : Nat) t v,Try.f8.params[j]?=some t→args[j]?=some v→Value.okWide Try.prog W .any base t v:=hval0
 have hW':=hW
 obtain ⟨p,q,hA0,hV,rfl,hfz,hnd⟩:=hW
 have hA : DataW.TrodAll enc Try.prog W 0 (fun _=>true) true Try.f8.params.toList args.toList ds p:=hA0
 rw [Try.params8] at hA hval
 obtain ⟨v0,v1,d0,d1,p0,p1,rfl,rfl,rfl,h0,h1⟩:=trodAll_two hA
 obtain ⟨a0,r0,w0⟩:=arg_d20 (hval 0 28 v0 rfl rfl) h0
 obtain ⟨a1,r1,w1⟩:=arg_int Try.underlying34 (hval 1 34 v1 rfl rfl) h1
 refine (calls_true (args:=[.agg a0.cells,.lit (.int .u16 a1)]) (numbers_spec a0 w0 a1 (wfU16 w1) noH _ fun H' _=>⟨_,rfl,.lit _⟩) (noGl_glob W) ⟨rfl,fun i hi _=>match i,hi with|0,_=>r0|1,_=>r1⟩).mono fun e W' ⟨he,hb,hz⟩=>?_
 subst he
 exact ⟨_,rfl,law_post Try.laidOut (by rw [Try.params8];rfl) rfl (by kernel_rfl) Try.boolT (fun ds hd=>by
  rw [Try.params8] at hd
  match ds,hd with
  | [x0,x1],_=>rfl) hW' hb hz⟩

theorem influenceNumbers_holds : Rows.InfluenceNumbersSaid :=
 OpenClaim.holds_of_wide 8 Try.f8 rfl rfl rfl rfl rfl rfl rfl ⟨rfl,rfl,rfl,rfl,rfl⟩ rfl rfl rfl rfl rfl (by kernel_rfl) Try.func8 (by kernel_rfl)
  (of_decide_eq_true (by kernel_rfl)) (by unfold Func.isWrapper;first|(rw [if_pos (by decide +kernel)];kernel_rfl)|(rw [if_neg (by decide +kernel)];exact ⟨rfl,rfl⟩))
  (fun os started H enc _=>influenceNumbers_lifted os started H enc)
end Go.Proofs.Ytcccmbeolcjacaa
