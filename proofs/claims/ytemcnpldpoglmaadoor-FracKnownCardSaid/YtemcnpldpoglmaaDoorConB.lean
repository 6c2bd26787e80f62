/- Own work: contracts. -/
import Derived.Test.YtemcnpldpoglmaaDoorConA
set_option linter.all false
namespace Go.Proofs
open Go.Hx
set_option maxRecDepth 100000
/-! FracKnown is reckoned out. -/
theorem works_known : KOk Tryd.prog G0 12 [([], .lit (.bool true))] := KOk.cons (chk_ok Tryd.epW_ok Tryd.works_chk) .nil
noncomputable def Tryd.epK : EP := { P := Tryd.prog, G := G0, gd := gdT, known := knownOf [(12, [([], .lit (.bool true))])], ext := extT }
theorem Tryd.epK_ok : EOk Tryd.epK := .of_known (l := [(12, [([], .lit (.bool true))])]) rfl G0_ok Tryd.mixed gdT_ok ⟨works_known, trivial⟩ Tryd.ext_ok
theorem Tryd.fracKnown_chk : chk Tryd.epK 1000000 11 [] (.lit (.bool true)) = true := by kernel_rfl
theorem known_spec (H : AHeap) (K : ARes → AHeap → Prop) (hK : K (.ret (.lit (.bool true))) H) : ACall Tryd.prog G0 11 [] H K :=
  (ACall.frame (args' := []) G0_ok rfl (fun i h _ => absurd h (Nat.not_lt_zero _)) (chk_ok Tryd.epK_ok Tryd.fracKnown_chk)).mono fun r H' ⟨h1, h2⟩ => by rw [h1, h2]; exact hK
end Go.Proofs
