/-
  DERIVED. GIVEN WITH THE SEED: THE CARDS: each row of YtoejgkcaamkanaaGreatDoorRows.lean that lists a variable, with what it lists TIED to the program's text (the seventh form; the later family's looks); each row that meets fmt, with fmt's text TOLD by the authors' own Lean function (tested against real Go, not proved from fmt's source: count such statements apart). THE CARD IS WHAT COUNTS. Prove the row's statement (the work); the ties are given (YtoejgkcaamkanaaGreatDoorTie.lean); close each card by the builder's one call (the guide's Derived/Test/ToyasCard.lean, 'card_holds'). Laid BY PROGRAM, IN A SANDBOX (cutbox-door.mjs). By AI agents, Wed Nov 11 2026. No macro, syntax, notation, axiom, sorry.
-/
import Derived.Test.YtoejgkcaamkanaaGreatDoorRows
import GoSem.ClaimSeven
namespace Go.Proofs.YtoejgkcaamkanaaGreatDoor
namespace Rows

/-- THE TIED CARD OF 'vestibulelaw12.BitmapixDense'. -/
def bitmapixDenseCard : Claim7 := { stood := { row := bitmapixDenseRow, standIns := [], harness := (true, "0013379f3e00ee65360a3df7b64b8bf03ab969157c6e6316bf47d61ef506296a"), looks := false }, kinds := [], alts := [], laidByText := true, laidKinds := [.data, .pinned], laidTests := true, laidLooks := .later }
def BitmapixDenseCardSaid : Prop := Claim7.holds Tryz.pinned (.plain (OpenSpec.ofChange bitmapixDenseSpec)) bitmapixDenseCard

/-- THE TIED CARD OF 'vestibulelaw11.HashixGrows'. -/
def hashixGrowsCard : Claim7 := { stood := { row := hashixGrowsRow, standIns := [], harness := (true, "0013379f3e00ee65360a3df7b64b8bf03ab969157c6e6316bf47d61ef506296a"), looks := false }, kinds := [], alts := [], laidByText := true, laidKinds := [.data, .pinned], laidTests := true, laidLooks := .later }
def HashixGrowsCardSaid : Prop := Claim7.holds Tryz.pinned (.plain (OpenSpec.ofChange hashixGrowsSpec)) hashixGrowsCard

/-- THE TIED CARD OF 'vestibulelaw11.HashixNobody'. -/
def hashixNobodyCard : Claim7 := { stood := { row := hashixNobodyRow, standIns := [], harness := (true, "0013379f3e00ee65360a3df7b64b8bf03ab969157c6e6316bf47d61ef506296a"), looks := false }, kinds := [], alts := [], laidByText := true, laidKinds := [.data, .pinned], laidTests := true, laidLooks := .later }
def HashixNobodyCardSaid : Prop := Claim7.holds Tryz.pinned (.plain (OpenSpec.ofChange hashixNobodySpec)) hashixNobodyCard

/-- THE TIED CARD OF 'vestibulelaw12.BitmapixNobody'. -/
def bitmapixNobodyCard : Claim7 := { stood := { row := bitmapixNobodyRow, standIns := [], harness := (true, "0013379f3e00ee65360a3df7b64b8bf03ab969157c6e6316bf47d61ef506296a"), looks := false }, kinds := [], alts := [], laidByText := true, laidKinds := [.data, .pinned], laidTests := true, laidLooks := .later }
def BitmapixNobodyCardSaid : Prop := Claim7.holds Tryz.pinned (.plain (OpenSpec.ofChange bitmapixNobodySpec)) bitmapixNobodyCard

/-- THE TIED CARD OF 'vestibulelaw13.InvertedNobody'. -/
def invertedNobodyCard : Claim7 := { stood := { row := invertedNobodyRow, standIns := [], harness := (true, "0013379f3e00ee65360a3df7b64b8bf03ab969157c6e6316bf47d61ef506296a"), looks := false }, kinds := [], alts := [], laidByText := true, laidKinds := [.data, .pinned], laidTests := true, laidLooks := .later }
def InvertedNobodyCardSaid : Prop := Claim7.holds Tryz.pinned (.plain (OpenSpec.ofChange invertedNobodySpec)) invertedNobodyCard

/-- THE SECOND FORM's CARD OF 'vestibulelaw12.BitmapixDense'. -/
def bitmapixDenseUptoCard : Claim7 := { stood := { row := bitmapixDenseUptoRow, standIns := [], harness := (true, "0013379f3e00ee65360a3df7b64b8bf03ab969157c6e6316bf47d61ef506296a"), looks := false }, kinds := [], alts := [], laidByText := true, laidKinds := [.data, .pinned], laidTests := true, laidLooks := .later }
def BitmapixDenseUptoCardSaid : Prop := Claim7.holds Tryz.pinned (.plain (OpenSpec.upto bitmapixDenseSpec)) bitmapixDenseUptoCard

/-- THE SECOND FORM's CARD OF 'vestibulelaw11.HashixGrows'. -/
def hashixGrowsUptoCard : Claim7 := { stood := { row := hashixGrowsUptoRow, standIns := [], harness := (true, "0013379f3e00ee65360a3df7b64b8bf03ab969157c6e6316bf47d61ef506296a"), looks := false }, kinds := [], alts := [], laidByText := true, laidKinds := [.data, .pinned], laidTests := true, laidLooks := .later }
def HashixGrowsUptoCardSaid : Prop := Claim7.holds Tryz.pinned (.plain (OpenSpec.upto hashixGrowsSpec)) hashixGrowsUptoCard

/-- THE SECOND FORM's CARD OF 'vestibulelaw11.HashixNobody'. -/
def hashixNobodyUptoCard : Claim7 := { stood := { row := hashixNobodyUptoRow, standIns := [], harness := (true, "0013379f3e00ee65360a3df7b64b8bf03ab969157c6e6316bf47d61ef506296a"), looks := false }, kinds := [], alts := [], laidByText := true, laidKinds := [.data, .pinned], laidTests := true, laidLooks := .later }
def HashixNobodyUptoCardSaid : Prop := Claim7.holds Tryz.pinned (.plain (OpenSpec.upto hashixNobodySpec)) hashixNobodyUptoCard

/-- THE SECOND FORM's CARD OF 'vestibulelaw12.BitmapixNobody'. -/
def bitmapixNobodyUptoCard : Claim7 := { stood := { row := bitmapixNobodyUptoRow, standIns := [], harness := (true, "0013379f3e00ee65360a3df7b64b8bf03ab969157c6e6316bf47d61ef506296a"), looks := false }, kinds := [], alts := [], laidByText := true, laidKinds := [.data, .pinned], laidTests := true, laidLooks := .later }
def BitmapixNobodyUptoCardSaid : Prop := Claim7.holds Tryz.pinned (.plain (OpenSpec.upto bitmapixNobodySpec)) bitmapixNobodyUptoCard

/-- THE SECOND FORM's CARD OF 'vestibulelaw13.InvertedNobody'. -/
def invertedNobodyUptoCard : Claim7 := { stood := { row := invertedNobodyUptoRow, standIns := [], harness := (true, "0013379f3e00ee65360a3df7b64b8bf03ab969157c6e6316bf47d61ef506296a"), looks := false }, kinds := [], alts := [], laidByText := true, laidKinds := [.data, .pinned], laidTests := true, laidLooks := .later }
def InvertedNobodyUptoCardSaid : Prop := Claim7.holds Tryz.pinned (.plain (OpenSpec.upto invertedNobodySpec)) invertedNobodyUptoCard
end Rows
end Go.Proofs.YtoejgkcaamkanaaGreatDoor
