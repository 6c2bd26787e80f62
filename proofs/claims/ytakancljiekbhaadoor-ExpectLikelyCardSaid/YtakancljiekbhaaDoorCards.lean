/-
  DERIVED. GIVEN WITH THE SEED: THE CARDS: each row of YtakancljiekbhaaDoorRows.lean that lists a variable, with what it lists TIED to the program's text (the seventh form; the later family's looks); each row that meets fmt, with fmt's text TOLD by the authors' own Lean function (tested against real Go, not proved from fmt's source: count such statements apart). THE CARD IS WHAT COUNTS. Prove the row's statement (the work); the ties are given (YtakancljiekbhaaDoorTie.lean); close each card by the builder's one call (the guide's Derived/Test/ToyasCard.lean, 'card_holds'). Laid BY PROGRAM, IN A SANDBOX (cutbox-door.mjs). By AI agents, Wed Nov 11 2026. No macro, syntax, notation, axiom, sorry.
-/
import Derived.Test.YtakancljiekbhaaDoorRows
import GoSem.ClaimSeven
namespace Go.Proofs.YtakancljiekbhaaDoor
namespace Rows

/-- THE TIED CARD OF 'haruspexlaw27.ExpectLikely'. -/
def expectLikelyCard : Claim7 := { stood := { row := expectLikelyRow, standIns := [], harness := (true, "8048f762a53e8c26a5373e0359da1e35d37a6517af52c124fcfa7ca586ca39c3"), looks := false }, kinds := [], alts := [], laidByText := true, laidKinds := [.data], laidTests := true, laidLooks := .later }
def ExpectLikelyCardSaid : Prop := Claim7.holds Tryd.pinned (.plain (OpenSpec.ofChange expectLikelySpec)) expectLikelyCard

/-- THE SECOND FORM's CARD OF 'haruspexlaw27.ExpectLikely'. -/
def expectLikelyUptoCard : Claim7 := { stood := { row := expectLikelyUptoRow, standIns := [], harness := (true, "8048f762a53e8c26a5373e0359da1e35d37a6517af52c124fcfa7ca586ca39c3"), looks := false }, kinds := [], alts := [], laidByText := true, laidKinds := [.data], laidTests := true, laidLooks := .later }
def ExpectLikelyUptoCardSaid : Prop := Claim7.holds Tryd.pinned (.plain (OpenSpec.upto expectLikelySpec)) expectLikelyUptoCard
end Rows
end Go.Proofs.YtakancljiekbhaaDoor
