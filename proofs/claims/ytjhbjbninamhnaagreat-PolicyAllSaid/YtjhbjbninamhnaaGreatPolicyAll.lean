/-
  PolicyAll: for every input the law returns true, and its arguments read afterwards as before. No conditions.
-/
import Derived.Test.YtjhbjbninamhnaaGreatRows
import Derived.Test.YtjhbjbninamhnaaGreatConB
import Derived.Test.YtjhbjbninamhnaaGreatConE
import Derived.ProofKit
set_option linter.all false
namespace Go.Proofs.YtjhbjbninamhnaaGreat
open Go.ChangeShapes Go.WideShapes Go.ChangeAt Go.RowKit Go.Hx
set_option maxRecDepth 100000 in
theorem policyAll_lifted (os:Os)(started:os.Started)(H:Type)(enc:TypeId × Value->H):
  ReturnsInHanded {} Tryz.checked os 8 .any (Rows.policyAllSpec.pre6 enc Tryz.prog Tryz.f8 Rows.policyAllRow.domain false) (Rows.policyAllSpec.post enc Tryz.prog Tryz.f8 false true false false):=by
 refine returnsInHanded_of_change (C:=Tryz.checked) Tryz.own started (by kernel_rfl) Tryz.func8
  (ChangeSpec.witness6 (enc:=enc) (C:=Tryz.checked) false ⟨#[],#[.agg #[.int .u8 0,.slice none 0 0,.slice none 0 0,.int .u8 0,.bool false,.slice none 0 0]],[]⟩ 8 (by kernel_rfl) (by kernel_rfl) (by kernel_rfl) (by kernel_rfl)) ?_
 intro W base args ds gs before hval0 hW hcnd _;have hval:∀ (j:Nat) t v,Tryz.f8.params[j]?=some t->args[j]?=some v->Value.okWide Tryz.prog W .any base t v:=hval0;have hW':=hW;obtain⟨p,q,hA0,hV,rfl,hfz,hnd⟩:=hW;have hA:DataW.TrodAll enc Tryz.prog W 0 (fun _=>true) true Tryz.f8.params.toList args.toList ds p:=hA0;rw[Tryz.params8]at hA hval;obtain⟨v0,d0,rfl,rfl,h0⟩:=trodAll_one hA;obtain⟨a0,r0,w0⟩:=KG (hval 0 28 v0 rfl rfl) h0;refine(Ed (args:=[.agg a0.cells]) (RJ a0 w0 dH _ fun H' _=>⟨_,rfl,.lit _⟩) (KA W) ⟨rfl,fun i hi _=>match i,hi with|0,_=>r0⟩).mono fun e W' ⟨he,hb,hz⟩=>?_;subst he;exact⟨_,rfl,Eh Tryz.laidOut (by rw[Tryz.params8];rfl) rfl (by kernel_rfl) Tryz.KB (fun ds hd=>by
  rw[Tryz.params8]at hd
  match ds,hd with
  | [x0],_=>rfl) hW' hb hz⟩
theorem policyAll_holds:Rows.PolicyAllSaid :=
 OpenClaim.holds_of_wide 8 Tryz.f8 rfl rfl rfl rfl rfl rfl rfl ⟨rfl,rfl,rfl,rfl,rfl⟩ rfl rfl rfl rfl rfl (by kernel_rfl) Tryz.func8 (by kernel_rfl)
  (of_decide_eq_true (by kernel_rfl)) (by unfold Func.isWrapper;first|(rw[if_pos (by decide +kernel)];kernel_rfl)|(rw[if_neg (by decide +kernel)];exact⟨rfl,rfl⟩))
  (fun os started H enc _=>policyAll_lifted os started H enc)
end Go.Proofs.YtjhbjbninamhnaaGreat
