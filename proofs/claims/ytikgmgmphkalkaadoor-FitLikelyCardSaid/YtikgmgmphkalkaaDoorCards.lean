/-
  DERIVED. GIVEN WITH THE SEED: THE CARDS: each row of YtikgmgmphkalkaaDoorRows.lean that lists a variable, with what it lists TIED to the program's text (the seventh form; the later family's looks); each row that meets fmt, with fmt's text TOLD by the authors' own Lean function (tested against real Go, not proved from fmt's source: count such statements apart). THE CARD IS WHAT COUNTS. Prove the row's statement (the work); the ties are given (YtikgmgmphkalkaaDoorTie.lean); close each card by the builder's one call (the guide's Derived/Test/ToyasCard.lean, 'card_holds'). Laid BY PROGRAM, IN A SANDBOX (cutbox-door.mjs). By AI agents, Wed Nov 11 2026. No macro, syntax, notation, axiom, sorry.
-/
import Derived.Test.YtikgmgmphkalkaaDoorRows
import GoSem.ClaimSeven
namespace Go.Proofs.YtikgmgmphkalkaaDoor
namespace Rows

/-- THE TIED CARD OF 'haruspexlaw26.FitRounds'. -/
def fitRoundsCard : Claim7 := { stood := { row := fitRoundsRow, standIns := [], harness := (true, "0295d333bde304ebcbdbf4d82a4e8aaba7420b95867ff65f7239f2d2c699a6f4"), looks := false }, kinds := [], alts := [], laidByText := true, laidKinds := [.data], laidTests := true, laidLooks := .later }
def FitRoundsCardSaid : Prop := Claim7.holds Tryd.pinned (.plain (OpenSpec.ofChange fitRoundsSpec)) fitRoundsCard

/-- THE TIED CARD OF 'haruspexlaw26.FitNets'. -/
def fitNetsCard : Claim7 := { stood := { row := fitNetsRow, standIns := [], harness := (true, "0295d333bde304ebcbdbf4d82a4e8aaba7420b95867ff65f7239f2d2c699a6f4"), looks := false }, kinds := [], alts := [], laidByText := true, laidKinds := [.data], laidTests := true, laidLooks := .later }
def FitNetsCardSaid : Prop := Claim7.holds Tryd.pinned (.plain (OpenSpec.ofChange fitNetsSpec)) fitNetsCard

/-- THE TIED CARD OF 'haruspexlaw26.FitLikelihoods'. -/
def fitLikelihoodsCard : Claim7 := { stood := { row := fitLikelihoodsRow, standIns := [], harness := (true, "0295d333bde304ebcbdbf4d82a4e8aaba7420b95867ff65f7239f2d2c699a6f4"), looks := false }, kinds := [], alts := [], laidByText := true, laidKinds := [.data], laidTests := true, laidLooks := .later }
def FitLikelihoodsCardSaid : Prop := Claim7.holds Tryd.pinned (.plain (OpenSpec.ofChange fitLikelihoodsSpec)) fitLikelihoodsCard

/-- THE TIED CARD OF 'haruspexlaw26.FitLikely'. -/
def fitLikelyCard : Claim7 := { stood := { row := fitLikelyRow, standIns := [], harness := (true, "0295d333bde304ebcbdbf4d82a4e8aaba7420b95867ff65f7239f2d2c699a6f4"), looks := false }, kinds := [], alts := [], laidByText := true, laidKinds := [.data], laidTests := true, laidLooks := .later }
def FitLikelyCardSaid : Prop := Claim7.holds Tryd.pinned (.plain (OpenSpec.ofChange fitLikelySpec)) fitLikelyCard

/-- THE TIED CARD OF 'haruspexlaw26.FitNearest'. -/
def fitNearestCard : Claim7 := { stood := { row := fitNearestRow, standIns := [], harness := (true, "0295d333bde304ebcbdbf4d82a4e8aaba7420b95867ff65f7239f2d2c699a6f4"), looks := false }, kinds := [], alts := [], laidByText := true, laidKinds := [.data], laidTests := true, laidLooks := .later }
def FitNearestCardSaid : Prop := Claim7.holds Tryd.pinned (.plain (OpenSpec.ofChange fitNearestSpec)) fitNearestCard

/-- THE TIED CARD OF 'haruspexlaw26.FitFair'. -/
def fitFairCard : Claim7 := { stood := { row := fitFairRow, standIns := [], harness := (true, "0295d333bde304ebcbdbf4d82a4e8aaba7420b95867ff65f7239f2d2c699a6f4"), looks := false }, kinds := [], alts := [], laidByText := true, laidKinds := [.data], laidTests := true, laidLooks := .later }
def FitFairCardSaid : Prop := Claim7.holds Tryd.pinned (.plain (OpenSpec.ofChange fitFairSpec)) fitFairCard

/-- THE TIED CARD OF 'haruspexlaw26.FitKnown'. -/
def fitKnownCard : Claim7 := { stood := { row := fitKnownRow, standIns := [], harness := (true, "0295d333bde304ebcbdbf4d82a4e8aaba7420b95867ff65f7239f2d2c699a6f4"), looks := false }, kinds := [], alts := [], laidByText := true, laidKinds := [.data], laidTests := true, laidLooks := .later }
def FitKnownCardSaid : Prop := Claim7.holds Tryd.pinned (.plain (OpenSpec.ofChange fitKnownSpec)) fitKnownCard

/-- THE SECOND FORM's CARD OF 'haruspexlaw26.FitRounds'. -/
def fitRoundsUptoCard : Claim7 := { stood := { row := fitRoundsUptoRow, standIns := [], harness := (true, "0295d333bde304ebcbdbf4d82a4e8aaba7420b95867ff65f7239f2d2c699a6f4"), looks := false }, kinds := [], alts := [], laidByText := true, laidKinds := [.data], laidTests := true, laidLooks := .later }
def FitRoundsUptoCardSaid : Prop := Claim7.holds Tryd.pinned (.plain (OpenSpec.upto fitRoundsSpec)) fitRoundsUptoCard

/-- THE SECOND FORM's CARD OF 'haruspexlaw26.FitNets'. -/
def fitNetsUptoCard : Claim7 := { stood := { row := fitNetsUptoRow, standIns := [], harness := (true, "0295d333bde304ebcbdbf4d82a4e8aaba7420b95867ff65f7239f2d2c699a6f4"), looks := false }, kinds := [], alts := [], laidByText := true, laidKinds := [.data], laidTests := true, laidLooks := .later }
def FitNetsUptoCardSaid : Prop := Claim7.holds Tryd.pinned (.plain (OpenSpec.upto fitNetsSpec)) fitNetsUptoCard

/-- THE SECOND FORM's CARD OF 'haruspexlaw26.FitLikelihoods'. -/
def fitLikelihoodsUptoCard : Claim7 := { stood := { row := fitLikelihoodsUptoRow, standIns := [], harness := (true, "0295d333bde304ebcbdbf4d82a4e8aaba7420b95867ff65f7239f2d2c699a6f4"), looks := false }, kinds := [], alts := [], laidByText := true, laidKinds := [.data], laidTests := true, laidLooks := .later }
def FitLikelihoodsUptoCardSaid : Prop := Claim7.holds Tryd.pinned (.plain (OpenSpec.upto fitLikelihoodsSpec)) fitLikelihoodsUptoCard

/-- THE SECOND FORM's CARD OF 'haruspexlaw26.FitLikely'. -/
def fitLikelyUptoCard : Claim7 := { stood := { row := fitLikelyUptoRow, standIns := [], harness := (true, "0295d333bde304ebcbdbf4d82a4e8aaba7420b95867ff65f7239f2d2c699a6f4"), looks := false }, kinds := [], alts := [], laidByText := true, laidKinds := [.data], laidTests := true, laidLooks := .later }
def FitLikelyUptoCardSaid : Prop := Claim7.holds Tryd.pinned (.plain (OpenSpec.upto fitLikelySpec)) fitLikelyUptoCard

/-- THE SECOND FORM's CARD OF 'haruspexlaw26.FitNearest'. -/
def fitNearestUptoCard : Claim7 := { stood := { row := fitNearestUptoRow, standIns := [], harness := (true, "0295d333bde304ebcbdbf4d82a4e8aaba7420b95867ff65f7239f2d2c699a6f4"), looks := false }, kinds := [], alts := [], laidByText := true, laidKinds := [.data], laidTests := true, laidLooks := .later }
def FitNearestUptoCardSaid : Prop := Claim7.holds Tryd.pinned (.plain (OpenSpec.upto fitNearestSpec)) fitNearestUptoCard

/-- THE SECOND FORM's CARD OF 'haruspexlaw26.FitFair'. -/
def fitFairUptoCard : Claim7 := { stood := { row := fitFairUptoRow, standIns := [], harness := (true, "0295d333bde304ebcbdbf4d82a4e8aaba7420b95867ff65f7239f2d2c699a6f4"), looks := false }, kinds := [], alts := [], laidByText := true, laidKinds := [.data], laidTests := true, laidLooks := .later }
def FitFairUptoCardSaid : Prop := Claim7.holds Tryd.pinned (.plain (OpenSpec.upto fitFairSpec)) fitFairUptoCard

/-- THE SECOND FORM's CARD OF 'haruspexlaw26.FitKnown'. -/
def fitKnownUptoCard : Claim7 := { stood := { row := fitKnownUptoRow, standIns := [], harness := (true, "0295d333bde304ebcbdbf4d82a4e8aaba7420b95867ff65f7239f2d2c699a6f4"), looks := false }, kinds := [], alts := [], laidByText := true, laidKinds := [.data], laidTests := true, laidLooks := .later }
def FitKnownUptoCardSaid : Prop := Claim7.holds Tryd.pinned (.plain (OpenSpec.upto fitKnownSpec)) fitKnownUptoCard
end Rows
end Go.Proofs.YtikgmgmphkalkaaDoor
