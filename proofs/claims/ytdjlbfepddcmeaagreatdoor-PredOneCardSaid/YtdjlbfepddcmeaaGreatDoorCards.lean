/-
  DERIVED. GIVEN WITH THE SEED: THE CARDS: each row of YtdjlbfepddcmeaaGreatDoorRows.lean that lists a variable, with what it lists TIED to the program's text (the seventh form; the later family's looks); each row that meets fmt, with fmt's text TOLD by the authors' own Lean function (tested against real Go, not proved from fmt's source: count such statements apart). THE CARD IS WHAT COUNTS. Prove the row's statement (the work); the ties are given (YtdjlbfepddcmeaaGreatDoorTie.lean); close each card by the builder's one call (the guide's Derived/Test/ToyasCard.lean, 'card_holds'). Laid BY PROGRAM, IN A SANDBOX (cutbox-door.mjs). By AI agents, Wed Nov 11 2026. No macro, syntax, notation, axiom, sorry.
-/
import Derived.Test.YtdjlbfepddcmeaaGreatDoorRows
import GoSem.ClaimSeven
namespace Go.Proofs.YtdjlbfepddcmeaaGreatDoor
namespace Rows

/-- THE TIED CARD OF 'vestibulelaw15.PredHolds'. -/
def predHoldsCard : Claim7 := { stood := { row := predHoldsRow, standIns := [], harness := (true, "e59a2081d66f58674f2c6f8a6b0567c4d2b52459e8132ab36367bdeb8c73d75c"), looks := true }, kinds := [], alts := [], laidByText := true, laidKinds := [.data, .data, .data, .data, .sentinel, .sentinel, .pinned], laidTests := true, laidLooks := .later }
def PredHoldsCardSaid : Prop := Claim7.holds Tryz.pinned (.plain (OpenSpec.ofChange predHoldsSpec)) predHoldsCard

/-- THE TIED CARD OF 'vestibulelaw15.PredPrints'. -/
def predPrintsCard : Claim7 := { stood := { row := predPrintsRow, standIns := [], harness := (true, "e59a2081d66f58674f2c6f8a6b0567c4d2b52459e8132ab36367bdeb8c73d75c"), looks := true }, kinds := [], alts := [], laidByText := true, laidKinds := [.data, .data, .data, .data, .sentinel, .sentinel, .pinned], laidTests := true, laidLooks := .later }
def PredPrintsCardSaid : Prop := Claim7.holds Tryz.pinned (.plain (OpenSpec.ofChange predPrintsSpec)) predPrintsCard

/-- THE TIED CARD OF 'vestibulelaw15.PredBack'. -/
def predBackCard : Claim7 := { stood := { row := predBackRow, standIns := [], harness := (true, "e59a2081d66f58674f2c6f8a6b0567c4d2b52459e8132ab36367bdeb8c73d75c"), looks := true }, kinds := [], alts := [], laidByText := true, laidKinds := [.data, .data, .data, .data, .sentinel, .sentinel, .pinned], laidTests := true, laidLooks := .later }
def PredBackCardSaid : Prop := Claim7.holds Tryz.pinned (.plain (OpenSpec.ofChange predBackSpec)) predBackCard

/-- THE TIED CARD OF 'vestibulelaw15.PredLogic'. -/
def predLogicCard : Claim7 := { stood := { row := predLogicRow, standIns := [], harness := (true, "e59a2081d66f58674f2c6f8a6b0567c4d2b52459e8132ab36367bdeb8c73d75c"), looks := true }, kinds := [], alts := [], laidByText := true, laidKinds := [.data, .data, .data, .data, .sentinel, .sentinel, .pinned], laidTests := true, laidLooks := .later }
def PredLogicCardSaid : Prop := Claim7.holds Tryz.pinned (.plain (OpenSpec.ofChange predLogicSpec)) predLogicCard

/-- THE TIED CARD OF 'vestibulelaw15.PredOne'. -/
def predOneCard : Claim7 := { stood := { row := predOneRow, standIns := [], harness := (true, "e59a2081d66f58674f2c6f8a6b0567c4d2b52459e8132ab36367bdeb8c73d75c"), looks := true }, kinds := [], alts := [], laidByText := true, laidKinds := [.data, .data, .data, .data, .sentinel, .sentinel, .pinned], laidTests := true, laidLooks := .later }
def PredOneCardSaid : Prop := Claim7.holds Tryz.pinned (.plain (OpenSpec.ofChange predOneSpec)) predOneCard

/-- THE TIED CARD OF 'vestibulelaw15.PredMorgan'. -/
def predMorganCard : Claim7 := { stood := { row := predMorganRow, standIns := [], harness := (true, "e59a2081d66f58674f2c6f8a6b0567c4d2b52459e8132ab36367bdeb8c73d75c"), looks := true }, kinds := [], alts := [], laidByText := true, laidKinds := [.data, .data, .data, .data, .sentinel, .sentinel, .pinned], laidTests := true, laidLooks := .later }
def PredMorganCardSaid : Prop := Claim7.holds Tryz.pinned (.plain (OpenSpec.ofChange predMorganSpec)) predMorganCard

/-- THE SECOND FORM's CARD OF 'vestibulelaw15.PredHolds'. -/
def predHoldsUptoCard : Claim7 := { stood := { row := predHoldsUptoRow, standIns := [], harness := (true, "e59a2081d66f58674f2c6f8a6b0567c4d2b52459e8132ab36367bdeb8c73d75c"), looks := true }, kinds := [], alts := [], laidByText := true, laidKinds := [.data, .data, .data, .data, .sentinel, .sentinel, .pinned], laidTests := true, laidLooks := .later }
def PredHoldsUptoCardSaid : Prop := Claim7.holds Tryz.pinned (.plain (OpenSpec.upto predHoldsSpec)) predHoldsUptoCard

/-- THE SECOND FORM's CARD OF 'vestibulelaw15.PredPrints'. -/
def predPrintsUptoCard : Claim7 := { stood := { row := predPrintsUptoRow, standIns := [], harness := (true, "e59a2081d66f58674f2c6f8a6b0567c4d2b52459e8132ab36367bdeb8c73d75c"), looks := true }, kinds := [], alts := [], laidByText := true, laidKinds := [.data, .data, .data, .data, .sentinel, .sentinel, .pinned], laidTests := true, laidLooks := .later }
def PredPrintsUptoCardSaid : Prop := Claim7.holds Tryz.pinned (.plain (OpenSpec.upto predPrintsSpec)) predPrintsUptoCard

/-- THE SECOND FORM's CARD OF 'vestibulelaw15.PredBack'. -/
def predBackUptoCard : Claim7 := { stood := { row := predBackUptoRow, standIns := [], harness := (true, "e59a2081d66f58674f2c6f8a6b0567c4d2b52459e8132ab36367bdeb8c73d75c"), looks := true }, kinds := [], alts := [], laidByText := true, laidKinds := [.data, .data, .data, .data, .sentinel, .sentinel, .pinned], laidTests := true, laidLooks := .later }
def PredBackUptoCardSaid : Prop := Claim7.holds Tryz.pinned (.plain (OpenSpec.upto predBackSpec)) predBackUptoCard

/-- THE SECOND FORM's CARD OF 'vestibulelaw15.PredLogic'. -/
def predLogicUptoCard : Claim7 := { stood := { row := predLogicUptoRow, standIns := [], harness := (true, "e59a2081d66f58674f2c6f8a6b0567c4d2b52459e8132ab36367bdeb8c73d75c"), looks := true }, kinds := [], alts := [], laidByText := true, laidKinds := [.data, .data, .data, .data, .sentinel, .sentinel, .pinned], laidTests := true, laidLooks := .later }
def PredLogicUptoCardSaid : Prop := Claim7.holds Tryz.pinned (.plain (OpenSpec.upto predLogicSpec)) predLogicUptoCard

/-- THE SECOND FORM's CARD OF 'vestibulelaw15.PredOne'. -/
def predOneUptoCard : Claim7 := { stood := { row := predOneUptoRow, standIns := [], harness := (true, "e59a2081d66f58674f2c6f8a6b0567c4d2b52459e8132ab36367bdeb8c73d75c"), looks := true }, kinds := [], alts := [], laidByText := true, laidKinds := [.data, .data, .data, .data, .sentinel, .sentinel, .pinned], laidTests := true, laidLooks := .later }
def PredOneUptoCardSaid : Prop := Claim7.holds Tryz.pinned (.plain (OpenSpec.upto predOneSpec)) predOneUptoCard

/-- THE SECOND FORM's CARD OF 'vestibulelaw15.PredMorgan'. -/
def predMorganUptoCard : Claim7 := { stood := { row := predMorganUptoRow, standIns := [], harness := (true, "e59a2081d66f58674f2c6f8a6b0567c4d2b52459e8132ab36367bdeb8c73d75c"), looks := true }, kinds := [], alts := [], laidByText := true, laidKinds := [.data, .data, .data, .data, .sentinel, .sentinel, .pinned], laidTests := true, laidLooks := .later }
def PredMorganUptoCardSaid : Prop := Claim7.holds Tryz.pinned (.plain (OpenSpec.upto predMorganSpec)) predMorganUptoCard
end Rows
end Go.Proofs.YtdjlbfepddcmeaaGreatDoor
