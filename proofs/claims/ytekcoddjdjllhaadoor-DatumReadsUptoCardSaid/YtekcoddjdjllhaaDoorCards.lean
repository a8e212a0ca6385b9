/-
  DERIVED. GIVEN WITH THE SEED: THE CARDS: each row of YtekcoddjdjllhaaDoorRows.lean that lists a variable, with what it lists TIED to the program's text (the seventh form; the later family's looks); each row that meets fmt, with fmt's text TOLD by the authors' own Lean function (tested against real Go, not proved from fmt's source: count such statements apart). THE CARD IS WHAT COUNTS. Prove the row's statement (the work); the ties are given (YtekcoddjdjllhaaDoorTie.lean); close each card by the builder's one call (the guide's Derived/Test/ToyasCard.lean, 'card_holds'). Laid BY PROGRAM, IN A SANDBOX (cutbox-door.mjs). By AI agents, Wed Nov 11 2026. No macro, syntax, notation, axiom, sorry.
-/
import Derived.Test.YtekcoddjdjllhaaDoorRows
import GoSem.ClaimSeven
namespace Go.Proofs.YtekcoddjdjllhaaDoor
namespace Rows

/-- THE TIED CARD OF 'vestibulelaw01.DatumLine'. -/
def datumLineCard : Claim7 := { stood := { row := datumLineRow, standIns := [], harness := (true, "3fd680d1ee4466a46444f3a144c972a01e3db722de3b55bd6271f96202ef6e3d"), looks := true }, kinds := [], alts := [], laidByText := true, laidKinds := [.data, .data, .data, .sentinel, .sentinel], laidTests := true, laidLooks := .later }
def DatumLineCardSaid : Prop := Claim7.holds Tryd.pinned (.plain (OpenSpec.ofChange datumLineSpec)) datumLineCard

/-- THE TIED CARD OF 'vestibulelaw01.DatumReads'. -/
def datumReadsCard : Claim7 := { stood := { row := datumReadsRow, standIns := [], harness := (true, "3fd680d1ee4466a46444f3a144c972a01e3db722de3b55bd6271f96202ef6e3d"), looks := true }, kinds := [], alts := [], laidByText := true, laidKinds := [.data, .data, .data, .sentinel, .sentinel], laidTests := true, laidLooks := .later }
def DatumReadsCardSaid : Prop := Claim7.holds Tryd.pinned (.plain (OpenSpec.ofChange datumReadsSpec)) datumReadsCard

/-- THE TIED CARD OF 'vestibulelaw01.DatumBytes'. -/
def datumBytesCard : Claim7 := { stood := { row := datumBytesRow, standIns := [], harness := (true, "3fd680d1ee4466a46444f3a144c972a01e3db722de3b55bd6271f96202ef6e3d"), looks := true }, kinds := [], alts := [], laidByText := true, laidKinds := [.data, .data, .data, .data, .sentinel, .sentinel, .pinned], laidTests := true, laidLooks := .later }
def DatumBytesCardSaid : Prop := Claim7.holds Tryd.pinned (.plain (OpenSpec.ofChange datumBytesSpec)) datumBytesCard

/-- THE TIED CARD OF 'vestibulelaw01.DatumStands'. -/
def datumStandsCard : Claim7 := { stood := { row := datumStandsRow, standIns := [], harness := (true, "3fd680d1ee4466a46444f3a144c972a01e3db722de3b55bd6271f96202ef6e3d"), looks := true }, kinds := [], alts := [], laidByText := true, laidKinds := [.data, .data, .data, .data, .sentinel, .sentinel, .pinned], laidTests := true, laidLooks := .later }
def DatumStandsCardSaid : Prop := Claim7.holds Tryd.pinned (.plain (OpenSpec.ofChange datumStandsSpec)) datumStandsCard

/-- THE TIED CARD OF 'vestibulelaw01.DatumLists'. -/
def datumListsCard : Claim7 := { stood := { row := datumListsRow, standIns := [], harness := (true, "3fd680d1ee4466a46444f3a144c972a01e3db722de3b55bd6271f96202ef6e3d"), looks := true }, kinds := [], alts := [], laidByText := true, laidKinds := [.data, .data, .data, .data, .sentinel, .sentinel, .pinned], laidTests := true, laidLooks := .later }
def DatumListsCardSaid : Prop := Claim7.holds Tryd.pinned (.plain (OpenSpec.ofChange datumListsSpec)) datumListsCard

/-- THE TIED CARD OF 'vestibulelaw01.DatumOrders'. -/
def datumOrdersCard : Claim7 := { stood := { row := datumOrdersRow, standIns := [], harness := (true, "3fd680d1ee4466a46444f3a144c972a01e3db722de3b55bd6271f96202ef6e3d"), looks := true }, kinds := [], alts := [], laidByText := true, laidKinds := [.data, .data, .data, .data, .sentinel, .sentinel, .pinned], laidTests := true, laidLooks := .later }
def DatumOrdersCardSaid : Prop := Claim7.holds Tryd.pinned (.plain (OpenSpec.ofChange datumOrdersSpec)) datumOrdersCard

/-- THE TIED CARD OF 'vestibulelaw01.DatumBack'. -/
def datumBackCard : Claim7 := { stood := { row := datumBackRow, standIns := [], harness := (true, "3fd680d1ee4466a46444f3a144c972a01e3db722de3b55bd6271f96202ef6e3d"), looks := true }, kinds := [], alts := [], laidByText := true, laidKinds := [.data, .data, .data, .data, .sentinel, .sentinel, .pinned], laidTests := true, laidLooks := .later }
def DatumBackCardSaid : Prop := Claim7.holds Tryd.pinned (.plain (OpenSpec.ofChange datumBackSpec)) datumBackCard

/-- THE SECOND FORM's CARD OF 'vestibulelaw01.DatumLine'. -/
def datumLineUptoCard : Claim7 := { stood := { row := datumLineUptoRow, standIns := [], harness := (true, "3fd680d1ee4466a46444f3a144c972a01e3db722de3b55bd6271f96202ef6e3d"), looks := true }, kinds := [], alts := [], laidByText := true, laidKinds := [.data, .data, .data, .sentinel, .sentinel], laidTests := true, laidLooks := .later }
def DatumLineUptoCardSaid : Prop := Claim7.holds Tryd.pinned (.plain (OpenSpec.upto datumLineSpec)) datumLineUptoCard

/-- THE SECOND FORM's CARD OF 'vestibulelaw01.DatumReads'. -/
def datumReadsUptoCard : Claim7 := { stood := { row := datumReadsUptoRow, standIns := [], harness := (true, "3fd680d1ee4466a46444f3a144c972a01e3db722de3b55bd6271f96202ef6e3d"), looks := true }, kinds := [], alts := [], laidByText := true, laidKinds := [.data, .data, .data, .sentinel, .sentinel], laidTests := true, laidLooks := .later }
def DatumReadsUptoCardSaid : Prop := Claim7.holds Tryd.pinned (.plain (OpenSpec.upto datumReadsSpec)) datumReadsUptoCard

/-- THE SECOND FORM's CARD OF 'vestibulelaw01.DatumBytes'. -/
def datumBytesUptoCard : Claim7 := { stood := { row := datumBytesUptoRow, standIns := [], harness := (true, "3fd680d1ee4466a46444f3a144c972a01e3db722de3b55bd6271f96202ef6e3d"), looks := true }, kinds := [], alts := [], laidByText := true, laidKinds := [.data, .data, .data, .data, .sentinel, .sentinel, .pinned], laidTests := true, laidLooks := .later }
def DatumBytesUptoCardSaid : Prop := Claim7.holds Tryd.pinned (.plain (OpenSpec.upto datumBytesSpec)) datumBytesUptoCard

/-- THE SECOND FORM's CARD OF 'vestibulelaw01.DatumStands'. -/
def datumStandsUptoCard : Claim7 := { stood := { row := datumStandsUptoRow, standIns := [], harness := (true, "3fd680d1ee4466a46444f3a144c972a01e3db722de3b55bd6271f96202ef6e3d"), looks := true }, kinds := [], alts := [], laidByText := true, laidKinds := [.data, .data, .data, .data, .sentinel, .sentinel, .pinned], laidTests := true, laidLooks := .later }
def DatumStandsUptoCardSaid : Prop := Claim7.holds Tryd.pinned (.plain (OpenSpec.upto datumStandsSpec)) datumStandsUptoCard

/-- THE SECOND FORM's CARD OF 'vestibulelaw01.DatumLists'. -/
def datumListsUptoCard : Claim7 := { stood := { row := datumListsUptoRow, standIns := [], harness := (true, "3fd680d1ee4466a46444f3a144c972a01e3db722de3b55bd6271f96202ef6e3d"), looks := true }, kinds := [], alts := [], laidByText := true, laidKinds := [.data, .data, .data, .data, .sentinel, .sentinel, .pinned], laidTests := true, laidLooks := .later }
def DatumListsUptoCardSaid : Prop := Claim7.holds Tryd.pinned (.plain (OpenSpec.upto datumListsSpec)) datumListsUptoCard

/-- THE SECOND FORM's CARD OF 'vestibulelaw01.DatumOrders'. -/
def datumOrdersUptoCard : Claim7 := { stood := { row := datumOrdersUptoRow, standIns := [], harness := (true, "3fd680d1ee4466a46444f3a144c972a01e3db722de3b55bd6271f96202ef6e3d"), looks := true }, kinds := [], alts := [], laidByText := true, laidKinds := [.data, .data, .data, .data, .sentinel, .sentinel, .pinned], laidTests := true, laidLooks := .later }
def DatumOrdersUptoCardSaid : Prop := Claim7.holds Tryd.pinned (.plain (OpenSpec.upto datumOrdersSpec)) datumOrdersUptoCard

/-- THE SECOND FORM's CARD OF 'vestibulelaw01.DatumBack'. -/
def datumBackUptoCard : Claim7 := { stood := { row := datumBackUptoRow, standIns := [], harness := (true, "3fd680d1ee4466a46444f3a144c972a01e3db722de3b55bd6271f96202ef6e3d"), looks := true }, kinds := [], alts := [], laidByText := true, laidKinds := [.data, .data, .data, .data, .sentinel, .sentinel, .pinned], laidTests := true, laidLooks := .later }
def DatumBackUptoCardSaid : Prop := Claim7.holds Tryd.pinned (.plain (OpenSpec.upto datumBackSpec)) datumBackUptoCard
end Rows
end Go.Proofs.YtekcoddjdjllhaaDoor
