/-
  DERIVED. GIVEN WITH THE SEED: THE CARDS: each row of YtemcnpldpoglmaaDoorRows.lean that lists a variable, with what it lists TIED to the program's text (the seventh form; the later family's looks); each row that meets fmt, with fmt's text TOLD by the authors' own Lean function (tested against real Go, not proved from fmt's source: count such statements apart). THE CARD IS WHAT COUNTS. Prove the row's statement (the work); the ties are given (YtemcnpldpoglmaaDoorTie.lean); close each card by the builder's one call (the guide's Derived/Test/ToyasCard.lean, 'card_holds'). Laid BY PROGRAM, IN A SANDBOX (cutbox-door.mjs). By AI agents, Wed Nov 11 2026. No macro, syntax, notation, axiom, sorry.
-/
import Derived.Test.YtemcnpldpoglmaaDoorRows
import GoSem.ClaimSeven
namespace Go.Proofs.YtemcnpldpoglmaaDoor
namespace Rows

/-- THE TIED CARD OF 'haruspexlaw01.FracMakes'. -/
def fracMakesCard : Claim7 := { stood := { row := fracMakesRow, standIns := [], harness := (true, "2c680e0e5cfc57937a64dd362dc84cd329698b2439a02998234277c9a55ee95b"), looks := false }, kinds := [], alts := [], laidByText := true, laidKinds := [.data, .data, .data], laidTests := true, laidLooks := .later }
def FracMakesCardSaid : Prop := Claim7.holds Tryd.pinned (.plain (OpenSpec.ofChange fracMakesSpec)) fracMakesCard

/-- THE TIED CARD OF 'haruspexlaw01.FracSums'. -/
def fracSumsCard : Claim7 := { stood := { row := fracSumsRow, standIns := [], harness := (true, "2c680e0e5cfc57937a64dd362dc84cd329698b2439a02998234277c9a55ee95b"), looks := false }, kinds := [], alts := [], laidByText := true, laidKinds := [.data, .data, .data], laidTests := true, laidLooks := .later }
def FracSumsCardSaid : Prop := Claim7.holds Tryd.pinned (.plain (OpenSpec.ofChange fracSumsSpec)) fracSumsCard

/-- THE TIED CARD OF 'haruspexlaw01.FracProducts'. -/
def fracProductsCard : Claim7 := { stood := { row := fracProductsRow, standIns := [], harness := (true, "2c680e0e5cfc57937a64dd362dc84cd329698b2439a02998234277c9a55ee95b"), looks := false }, kinds := [], alts := [], laidByText := true, laidKinds := [.data, .data, .data], laidTests := true, laidLooks := .later }
def FracProductsCardSaid : Prop := Claim7.holds Tryd.pinned (.plain (OpenSpec.ofChange fracProductsSpec)) fracProductsCard

/-- THE TIED CARD OF 'haruspexlaw01.FracOrders'. -/
def fracOrdersCard : Claim7 := { stood := { row := fracOrdersRow, standIns := [], harness := (true, "2c680e0e5cfc57937a64dd362dc84cd329698b2439a02998234277c9a55ee95b"), looks := false }, kinds := [], alts := [], laidByText := true, laidKinds := [.data, .data, .data], laidTests := true, laidLooks := .later }
def FracOrdersCardSaid : Prop := Claim7.holds Tryd.pinned (.plain (OpenSpec.ofChange fracOrdersSpec)) fracOrdersCard

/-- THE TIED CARD OF 'haruspexlaw01.FracTexts'. -/
def fracTextsCard : Claim7 := { stood := { row := fracTextsRow, standIns := [], harness := (true, "2c680e0e5cfc57937a64dd362dc84cd329698b2439a02998234277c9a55ee95b"), looks := false }, kinds := [], alts := [], laidByText := true, laidKinds := [.data, .data, .data], laidTests := true, laidLooks := .later }
def FracTextsCardSaid : Prop := Claim7.holds Tryd.pinned (.plain (OpenSpec.ofChange fracTextsSpec)) fracTextsCard

/-- THE TIED CARD OF 'haruspexlaw01.FracField'. -/
def fracFieldCard : Claim7 := { stood := { row := fracFieldRow, standIns := [], harness := (true, "2c680e0e5cfc57937a64dd362dc84cd329698b2439a02998234277c9a55ee95b"), looks := false }, kinds := [], alts := [], laidByText := true, laidKinds := [.data, .data, .data], laidTests := true, laidLooks := .later }
def FracFieldCardSaid : Prop := Claim7.holds Tryd.pinned (.plain (OpenSpec.ofChange fracFieldSpec)) fracFieldCard

/-- THE TIED CARD OF 'haruspexlaw01.FracBack'. -/
def fracBackCard : Claim7 := { stood := { row := fracBackRow, standIns := [], harness := (true, "2c680e0e5cfc57937a64dd362dc84cd329698b2439a02998234277c9a55ee95b"), looks := false }, kinds := [], alts := [], laidByText := true, laidKinds := [.data, .data, .data], laidTests := true, laidLooks := .later }
def FracBackCardSaid : Prop := Claim7.holds Tryd.pinned (.plain (OpenSpec.ofChange fracBackSpec)) fracBackCard

/-- THE TIED CARD OF 'haruspexlaw01.FracSigns'. -/
def fracSignsCard : Claim7 := { stood := { row := fracSignsRow, standIns := [], harness := (true, "2c680e0e5cfc57937a64dd362dc84cd329698b2439a02998234277c9a55ee95b"), looks := false }, kinds := [], alts := [], laidByText := true, laidKinds := [.data, .data, .data], laidTests := true, laidLooks := .later }
def FracSignsCardSaid : Prop := Claim7.holds Tryd.pinned (.plain (OpenSpec.ofChange fracSignsSpec)) fracSignsCard

/-- THE TIED CARD OF 'haruspexlaw01.FracKnown'. -/
def fracKnownCard : Claim7 := { stood := { row := fracKnownRow, standIns := [], harness := (true, "2c680e0e5cfc57937a64dd362dc84cd329698b2439a02998234277c9a55ee95b"), looks := false }, kinds := [], alts := [], laidByText := true, laidKinds := [.data, .data, .data], laidTests := true, laidLooks := .later }
def FracKnownCardSaid : Prop := Claim7.holds Tryd.pinned (.plain (OpenSpec.ofChange fracKnownSpec)) fracKnownCard

/-- THE SECOND FORM's CARD OF 'haruspexlaw01.FracMakes'. -/
def fracMakesUptoCard : Claim7 := { stood := { row := fracMakesUptoRow, standIns := [], harness := (true, "2c680e0e5cfc57937a64dd362dc84cd329698b2439a02998234277c9a55ee95b"), looks := false }, kinds := [], alts := [], laidByText := true, laidKinds := [.data, .data, .data], laidTests := true, laidLooks := .later }
def FracMakesUptoCardSaid : Prop := Claim7.holds Tryd.pinned (.plain (OpenSpec.upto fracMakesSpec)) fracMakesUptoCard

/-- THE SECOND FORM's CARD OF 'haruspexlaw01.FracSums'. -/
def fracSumsUptoCard : Claim7 := { stood := { row := fracSumsUptoRow, standIns := [], harness := (true, "2c680e0e5cfc57937a64dd362dc84cd329698b2439a02998234277c9a55ee95b"), looks := false }, kinds := [], alts := [], laidByText := true, laidKinds := [.data, .data, .data], laidTests := true, laidLooks := .later }
def FracSumsUptoCardSaid : Prop := Claim7.holds Tryd.pinned (.plain (OpenSpec.upto fracSumsSpec)) fracSumsUptoCard

/-- THE SECOND FORM's CARD OF 'haruspexlaw01.FracProducts'. -/
def fracProductsUptoCard : Claim7 := { stood := { row := fracProductsUptoRow, standIns := [], harness := (true, "2c680e0e5cfc57937a64dd362dc84cd329698b2439a02998234277c9a55ee95b"), looks := false }, kinds := [], alts := [], laidByText := true, laidKinds := [.data, .data, .data], laidTests := true, laidLooks := .later }
def FracProductsUptoCardSaid : Prop := Claim7.holds Tryd.pinned (.plain (OpenSpec.upto fracProductsSpec)) fracProductsUptoCard

/-- THE SECOND FORM's CARD OF 'haruspexlaw01.FracOrders'. -/
def fracOrdersUptoCard : Claim7 := { stood := { row := fracOrdersUptoRow, standIns := [], harness := (true, "2c680e0e5cfc57937a64dd362dc84cd329698b2439a02998234277c9a55ee95b"), looks := false }, kinds := [], alts := [], laidByText := true, laidKinds := [.data, .data, .data], laidTests := true, laidLooks := .later }
def FracOrdersUptoCardSaid : Prop := Claim7.holds Tryd.pinned (.plain (OpenSpec.upto fracOrdersSpec)) fracOrdersUptoCard

/-- THE SECOND FORM's CARD OF 'haruspexlaw01.FracTexts'. -/
def fracTextsUptoCard : Claim7 := { stood := { row := fracTextsUptoRow, standIns := [], harness := (true, "2c680e0e5cfc57937a64dd362dc84cd329698b2439a02998234277c9a55ee95b"), looks := false }, kinds := [], alts := [], laidByText := true, laidKinds := [.data, .data, .data], laidTests := true, laidLooks := .later }
def FracTextsUptoCardSaid : Prop := Claim7.holds Tryd.pinned (.plain (OpenSpec.upto fracTextsSpec)) fracTextsUptoCard

/-- THE SECOND FORM's CARD OF 'haruspexlaw01.FracField'. -/
def fracFieldUptoCard : Claim7 := { stood := { row := fracFieldUptoRow, standIns := [], harness := (true, "2c680e0e5cfc57937a64dd362dc84cd329698b2439a02998234277c9a55ee95b"), looks := false }, kinds := [], alts := [], laidByText := true, laidKinds := [.data, .data, .data], laidTests := true, laidLooks := .later }
def FracFieldUptoCardSaid : Prop := Claim7.holds Tryd.pinned (.plain (OpenSpec.upto fracFieldSpec)) fracFieldUptoCard

/-- THE SECOND FORM's CARD OF 'haruspexlaw01.FracBack'. -/
def fracBackUptoCard : Claim7 := { stood := { row := fracBackUptoRow, standIns := [], harness := (true, "2c680e0e5cfc57937a64dd362dc84cd329698b2439a02998234277c9a55ee95b"), looks := false }, kinds := [], alts := [], laidByText := true, laidKinds := [.data, .data, .data], laidTests := true, laidLooks := .later }
def FracBackUptoCardSaid : Prop := Claim7.holds Tryd.pinned (.plain (OpenSpec.upto fracBackSpec)) fracBackUptoCard

/-- THE SECOND FORM's CARD OF 'haruspexlaw01.FracSigns'. -/
def fracSignsUptoCard : Claim7 := { stood := { row := fracSignsUptoRow, standIns := [], harness := (true, "2c680e0e5cfc57937a64dd362dc84cd329698b2439a02998234277c9a55ee95b"), looks := false }, kinds := [], alts := [], laidByText := true, laidKinds := [.data, .data, .data], laidTests := true, laidLooks := .later }
def FracSignsUptoCardSaid : Prop := Claim7.holds Tryd.pinned (.plain (OpenSpec.upto fracSignsSpec)) fracSignsUptoCard

/-- THE SECOND FORM's CARD OF 'haruspexlaw01.FracKnown'. -/
def fracKnownUptoCard : Claim7 := { stood := { row := fracKnownUptoRow, standIns := [], harness := (true, "2c680e0e5cfc57937a64dd362dc84cd329698b2439a02998234277c9a55ee95b"), looks := false }, kinds := [], alts := [], laidByText := true, laidKinds := [.data, .data, .data], laidTests := true, laidLooks := .later }
def FracKnownUptoCardSaid : Prop := Claim7.holds Tryd.pinned (.plain (OpenSpec.upto fracKnownSpec)) fracKnownUptoCard
end Rows
end Go.Proofs.YtemcnpldpoglmaaDoor
