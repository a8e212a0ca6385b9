/-
  NARROWER THAN 'FOR EVERY INPUT', by the rows' own cells (each row's printed sentence says how): BitmapixDense: laid · HashixGrows: laid · HashixNobody: loops, laid · BitmapixNobody: loops, laid · InvertedNobody: loops, laid.
  DERIVED. THE GIVEN ROWS OF THIS SEAT. 5 by the template 'for every input the law returns true; each argument reads behind the call as it read before'; 0 by the template 'total and deterministic' (their statements: YtoejgkcaamkanaaGreatDoorTotals.lean).
  GIVEN WITH THE SEED: the statements are not yours to turn. If you find one false, say at which input.
  Laid BY PROGRAM, IN A SANDBOX (cutbox-rows.mjs): the forced cells as the released guide's own fill.sh prints them over the translation 4d665038cf95bd55… (all of the seat's roots in one cut). By AI agents, Wed Nov 11 2026. No macro, syntax, notation, axiom, sorry.
-/
import Derived.Test.YtoejgkcaamkanaaGreatDoorChecked
import GoSem.PinnedTables
import GoSem.Claim
import GoSem.ClaimJoined
import GoSem.ClaimMapViews
import Derived.JoinedTies
import Derived.KernelRfl
namespace Go.Proofs.YtoejgkcaamkanaaGreatDoor
/- THE CELL 'sum', in the pinned program and in every row, IS THE sha256 OF THE DUMP (.gsa) THAT YtoejgkcaamkanaaGreatDoorProg.lean LOADS. Nothing in Lean hashes anything: it is a label: what it is worth is what the hold of that sum in a sandbox is worth. -/
noncomputable def Tryz.pinned : Pinned := { name := "ytoejgkcaamkanaagreatdoor", sum := "4d665038cf95bd555dc6e1701899127ada7aa8efc3b181538bcab89a2cf8c6ba", checked := Tryz.checked }
namespace Rows
def none {H : Type} : Left H := { results := [], args := [] }

/- WHAT THE LISTED PACKAGE-LEVEL VARIABLES READ AS WHEN THE CALL BEGINS. Each datum BY PROGRAM (the guide's laid-datum.mjs) off the statement by which the dump's own 'gosem.cut.vars' lays the variable. In a bare row this is a premise. The card (YtoejgkcaamkanaaGreatDoorCards.lean) ties it to the program's text. -/
def laid_unicode_utf8_acceptRanges {H : Type} : DataW H := .agg [.agg [.lit (.int .u8 128), .lit (.int .u8 191)], .agg [.lit (.int .u8 160), .lit (.int .u8 191)], .agg [.lit (.int .u8 128), .lit (.int .u8 159)], .agg [.lit (.int .u8 144), .lit (.int .u8 191)], .agg [.lit (.int .u8 128), .lit (.int .u8 143)], .agg [.lit (.int .u8 0), .lit (.int .u8 0)], .agg [.lit (.int .u8 0), .lit (.int .u8 0)], .agg [.lit (.int .u8 0), .lit (.int .u8 0)], .agg [.lit (.int .u8 0), .lit (.int .u8 0)], .agg [.lit (.int .u8 0), .lit (.int .u8 0)], .agg [.lit (.int .u8 0), .lit (.int .u8 0)], .agg [.lit (.int .u8 0), .lit (.int .u8 0)], .agg [.lit (.int .u8 0), .lit (.int .u8 0)], .agg [.lit (.int .u8 0), .lit (.int .u8 0)], .agg [.lit (.int .u8 0), .lit (.int .u8 0)], .agg [.lit (.int .u8 0), .lit (.int .u8 0)]]
/-- One of Go's own tables, pinned by name: the form's constant. -/
def laid_unicode_utf8_first : DataW Unit := Go.Pinned.utf8First

/-- 'vestibulelaw12.BitmapixDense': WHATEVER THE INPUT: true; the input reads as it did. -/
def bitmapixDenseSpec : ChangeSpec := { name := "bitmapixDense", fn := fun _ => fun
  | [d1, d2] => { results := [.lit (.bool true)], args := [d1, d2] }
  | _ => none }
def bitmapixDenseRow : OpenClaim := { program := "ytoejgkcaamkanaagreatdoor", sum := "4d665038cf95bd555dc6e1701899127ada7aa8efc3b181538bcab89a2cf8c6ba", func := "vestibule/vestibulelaw12.BitmapixDense", spec := "bitmapixDense", inPlace := ["internal/bytealg.abigen_runtime_cmpstring", "internal/bytealg.CountString", "internal/bytealg.IndexByteString", "internal/bytealg.IndexString", "internal/abi.NoEscape", "internal/bytealg.MakeNoZero", "slices.overlaps[vestibule/api.Item]", "slices.overlaps[int]"], unfollowed := true, recurses := true, named := ["internal/bytealg.MaxLen", "unicode/utf8.first", "unicode/utf8.acceptRanges"], apart := false, laid := [("unicode/utf8.acceptRanges", laid_unicode_utf8_acceptRanges), ("unicode/utf8.first", laid_unicode_utf8_first)] }
def BitmapixDenseSaid : Prop := bitmapixDenseRow.holds Tryz.pinned (OpenSpec.ofChange bitmapixDenseSpec)

/-- ITS FALSE NEIGHBOUR: 'it returns false'. Refute it at one input. -/
def bitmapixDenseWrong : ChangeSpec := { name := "bitmapixDense", fn := fun _ => fun
  | [d1, d2] => { results := [.lit (.bool false)], args := [d1, d2] }
  | _ => none }
def BitmapixDenseWrongFalsely : Prop := bitmapixDenseRow.holds Tryz.pinned (OpenSpec.ofChange bitmapixDenseWrong)

/-- 'vestibulelaw11.HashixGrows': WHATEVER THE INPUT: true; the input reads as it did. -/
def hashixGrowsSpec : ChangeSpec := { name := "hashixGrows", fn := fun _ => fun
  | [d1, d2] => { results := [.lit (.bool true)], args := [d1, d2] }
  | _ => none }
def hashixGrowsRow : OpenClaim := { program := "ytoejgkcaamkanaagreatdoor", sum := "4d665038cf95bd555dc6e1701899127ada7aa8efc3b181538bcab89a2cf8c6ba", func := "vestibule/vestibulelaw11.HashixGrows", spec := "hashixGrows", inPlace := ["internal/bytealg.CountString", "internal/bytealg.IndexByteString", "internal/bytealg.IndexString", "internal/abi.NoEscape", "internal/bytealg.MakeNoZero", "internal/bytealg.abigen_runtime_cmpstring"], unfollowed := true, recurses := true, named := ["internal/bytealg.MaxLen", "unicode/utf8.first", "unicode/utf8.acceptRanges"], apart := false, laid := [("unicode/utf8.acceptRanges", laid_unicode_utf8_acceptRanges), ("unicode/utf8.first", laid_unicode_utf8_first)] }
def HashixGrowsSaid : Prop := hashixGrowsRow.holds Tryz.pinned (OpenSpec.ofChange hashixGrowsSpec)

/-- ITS FALSE NEIGHBOUR: 'it returns false'. Refute it at one input. -/
def hashixGrowsWrong : ChangeSpec := { name := "hashixGrows", fn := fun _ => fun
  | [d1, d2] => { results := [.lit (.bool false)], args := [d1, d2] }
  | _ => none }
def HashixGrowsWrongFalsely : Prop := hashixGrowsRow.holds Tryz.pinned (OpenSpec.ofChange hashixGrowsWrong)

/-- 'vestibulelaw11.HashixNobody': WHATEVER THE INPUT: true; the input reads as it did. -/
def hashixNobodySpec : ChangeSpec := { name := "hashixNobody", fn := fun _ => fun
  | [d1, d2] => { results := [.lit (.bool true)], args := [d1, d2] }
  | _ => none }
def hashixNobodyRow : OpenClaim := { program := "ytoejgkcaamkanaagreatdoor", sum := "4d665038cf95bd555dc6e1701899127ada7aa8efc3b181538bcab89a2cf8c6ba", func := "vestibule/vestibulelaw11.HashixNobody", spec := "hashixNobody", inPlace := ["internal/bytealg.CountString", "internal/bytealg.IndexByteString", "internal/bytealg.IndexString", "internal/abi.NoEscape", "internal/bytealg.MakeNoZero"], unfollowed := true, recurses := true, named := ["internal/bytealg.MaxLen", "unicode/utf8.first", "unicode/utf8.acceptRanges"], loops := true, apart := false, laid := [("unicode/utf8.acceptRanges", laid_unicode_utf8_acceptRanges), ("unicode/utf8.first", laid_unicode_utf8_first)] }
def HashixNobodySaid : Prop := hashixNobodyRow.holds Tryz.pinned (OpenSpec.ofChange hashixNobodySpec)

/-- ITS FALSE NEIGHBOUR: 'it returns false'. Refute it at one input. -/
def hashixNobodyWrong : ChangeSpec := { name := "hashixNobody", fn := fun _ => fun
  | [d1, d2] => { results := [.lit (.bool false)], args := [d1, d2] }
  | _ => none }
def HashixNobodyWrongFalsely : Prop := hashixNobodyRow.holds Tryz.pinned (OpenSpec.ofChange hashixNobodyWrong)

/-- 'vestibulelaw12.BitmapixNobody': WHATEVER THE INPUT: true; the input reads as it did. -/
def bitmapixNobodySpec : ChangeSpec := { name := "bitmapixNobody", fn := fun _ => fun
  | [d1, d2] => { results := [.lit (.bool true)], args := [d1, d2] }
  | _ => none }
def bitmapixNobodyRow : OpenClaim := { program := "ytoejgkcaamkanaagreatdoor", sum := "4d665038cf95bd555dc6e1701899127ada7aa8efc3b181538bcab89a2cf8c6ba", func := "vestibule/vestibulelaw12.BitmapixNobody", spec := "bitmapixNobody", inPlace := ["internal/bytealg.abigen_runtime_cmpstring", "internal/abi.NoEscape", "internal/bytealg.CountString", "internal/bytealg.IndexByteString", "internal/bytealg.IndexString", "internal/bytealg.MakeNoZero", "slices.overlaps[vestibule/api.Item]", "slices.overlaps[int]"], unfollowed := true, recurses := true, named := ["internal/bytealg.MaxLen", "unicode/utf8.first", "unicode/utf8.acceptRanges"], loops := true, apart := false, laid := [("unicode/utf8.acceptRanges", laid_unicode_utf8_acceptRanges), ("unicode/utf8.first", laid_unicode_utf8_first)] }
def BitmapixNobodySaid : Prop := bitmapixNobodyRow.holds Tryz.pinned (OpenSpec.ofChange bitmapixNobodySpec)

/-- ITS FALSE NEIGHBOUR: 'it returns false'. Refute it at one input. -/
def bitmapixNobodyWrong : ChangeSpec := { name := "bitmapixNobody", fn := fun _ => fun
  | [d1, d2] => { results := [.lit (.bool false)], args := [d1, d2] }
  | _ => none }
def BitmapixNobodyWrongFalsely : Prop := bitmapixNobodyRow.holds Tryz.pinned (OpenSpec.ofChange bitmapixNobodyWrong)

/-- 'vestibulelaw13.InvertedNobody': WHATEVER THE INPUT: true; the input reads as it did. -/
def invertedNobodySpec : ChangeSpec := { name := "invertedNobody", fn := fun _ => fun
  | [d1, d2] => { results := [.lit (.bool true)], args := [d1, d2] }
  | _ => none }
def invertedNobodyRow : OpenClaim := { program := "ytoejgkcaamkanaagreatdoor", sum := "4d665038cf95bd555dc6e1701899127ada7aa8efc3b181538bcab89a2cf8c6ba", func := "vestibule/vestibulelaw13.InvertedNobody", spec := "invertedNobody", inPlace := ["internal/bytealg.abigen_runtime_cmpstring", "internal/abi.NoEscape", "internal/bytealg.CountString", "internal/bytealg.IndexByteString", "internal/bytealg.IndexString", "internal/bytealg.MakeNoZero", "slices.overlaps[vestibule/api.Item]", "slices.overlaps[int]"], unfollowed := true, recurses := true, named := ["internal/bytealg.MaxLen", "unicode/utf8.first", "unicode/utf8.acceptRanges"], loops := true, apart := false, laid := [("unicode/utf8.acceptRanges", laid_unicode_utf8_acceptRanges), ("unicode/utf8.first", laid_unicode_utf8_first)] }
def InvertedNobodySaid : Prop := invertedNobodyRow.holds Tryz.pinned (OpenSpec.ofChange invertedNobodySpec)

/-- ITS FALSE NEIGHBOUR: 'it returns false'. Refute it at one input. -/
def invertedNobodyWrong : ChangeSpec := { name := "invertedNobody", fn := fun _ => fun
  | [d1, d2] => { results := [.lit (.bool false)], args := [d1, d2] }
  | _ => none }
def InvertedNobodyWrongFalsely : Prop := invertedNobodyRow.holds Tryz.pinned (OpenSpec.ofChange invertedNobodyWrong)

/- THE SECOND FORM. 'bulk': how many values and letters a reading holds, each counted each time it is reached (what is shared counts as often as it is met; a slice's spare places count too). A statement '..UptoSaid' is the law's where the arguments, and the package variables that the reading takes, are together of bulk at most 1048576: NARROWER than '..Said'. Prove '..Said' where nothing that the law and all that it calls make is longer than what came in: it says more and counts as full. Else prove '..UptoSaid'. A law counts once. -/
mutual
def uptoBulk {H : Type} : DataW H → Nat
  | .lit (.string bytes) => bytes.length + 1
  | .lit _ => 1
  | .nil => 1
  | .ptr d => uptoBulk d + 1
  | .slice elems spare => uptoBulkAll elems + uptoBulkAll spare + 1
  | .agg parts => uptoBulkAll parts + 1
  | .iface _ d => uptoBulk d + 1
  | .map entries => uptoBulkEntries entries + 1
  | .held _ => 1
def uptoBulkAll {H : Type} : List (DataW H) → Nat
  | [] => 0
  | d :: r => uptoBulk d + uptoBulkAll r
def uptoBulkEntries {H : Type} : List (Lit × DataW H) → Nat
  | [] => 0
  | x :: r => uptoBulkEntry x + uptoBulkEntries r
def uptoBulkEntry {H : Type} : Lit × DataW H → Nat
  | (.string bytes, d) => bytes.length + uptoBulk d + 1
  | (_, d) => uptoBulk d + 1
 end
def uptoSmall : (H : Type) → List (DataW H) → Bool := fun _ ds => decide (uptoBulkAll ds ≤ 1048576)
def OpenSpec.upto (s : _root_.Go.ChangeSpec) : _root_.Go.OpenSpec := { _root_.Go.OpenSpec.ofChange s with cond := some uptoSmall }

/-- 'vestibulelaw12.BitmapixDense', WHERE WHAT IT READS IS OF BULK AT MOST 1048576: true; the input reads as it did. -/
def bitmapixDenseUptoRow : OpenClaim := { program := "ytoejgkcaamkanaagreatdoor", sum := "4d665038cf95bd555dc6e1701899127ada7aa8efc3b181538bcab89a2cf8c6ba", func := "vestibule/vestibulelaw12.BitmapixDense", spec := "bitmapixDense", inPlace := ["internal/bytealg.abigen_runtime_cmpstring", "internal/bytealg.CountString", "internal/bytealg.IndexByteString", "internal/bytealg.IndexString", "internal/abi.NoEscape", "internal/bytealg.MakeNoZero", "slices.overlaps[vestibule/api.Item]", "slices.overlaps[int]"], unfollowed := true, recurses := true, named := ["internal/bytealg.MaxLen", "unicode/utf8.first", "unicode/utf8.acceptRanges"], apart := false, laid := [("unicode/utf8.acceptRanges", laid_unicode_utf8_acceptRanges), ("unicode/utf8.first", laid_unicode_utf8_first)], narrowed := true }
def BitmapixDenseUptoSaid : Prop := bitmapixDenseUptoRow.holds Tryz.pinned (OpenSpec.upto bitmapixDenseSpec)

/-- 'vestibulelaw11.HashixGrows', WHERE WHAT IT READS IS OF BULK AT MOST 1048576: true; the input reads as it did. -/
def hashixGrowsUptoRow : OpenClaim := { program := "ytoejgkcaamkanaagreatdoor", sum := "4d665038cf95bd555dc6e1701899127ada7aa8efc3b181538bcab89a2cf8c6ba", func := "vestibule/vestibulelaw11.HashixGrows", spec := "hashixGrows", inPlace := ["internal/bytealg.CountString", "internal/bytealg.IndexByteString", "internal/bytealg.IndexString", "internal/abi.NoEscape", "internal/bytealg.MakeNoZero", "internal/bytealg.abigen_runtime_cmpstring"], unfollowed := true, recurses := true, named := ["internal/bytealg.MaxLen", "unicode/utf8.first", "unicode/utf8.acceptRanges"], apart := false, laid := [("unicode/utf8.acceptRanges", laid_unicode_utf8_acceptRanges), ("unicode/utf8.first", laid_unicode_utf8_first)], narrowed := true }
def HashixGrowsUptoSaid : Prop := hashixGrowsUptoRow.holds Tryz.pinned (OpenSpec.upto hashixGrowsSpec)

/-- 'vestibulelaw11.HashixNobody', WHERE WHAT IT READS IS OF BULK AT MOST 1048576: true; the input reads as it did. -/
def hashixNobodyUptoRow : OpenClaim := { program := "ytoejgkcaamkanaagreatdoor", sum := "4d665038cf95bd555dc6e1701899127ada7aa8efc3b181538bcab89a2cf8c6ba", func := "vestibule/vestibulelaw11.HashixNobody", spec := "hashixNobody", inPlace := ["internal/bytealg.CountString", "internal/bytealg.IndexByteString", "internal/bytealg.IndexString", "internal/abi.NoEscape", "internal/bytealg.MakeNoZero"], unfollowed := true, recurses := true, named := ["internal/bytealg.MaxLen", "unicode/utf8.first", "unicode/utf8.acceptRanges"], loops := true, apart := false, laid := [("unicode/utf8.acceptRanges", laid_unicode_utf8_acceptRanges), ("unicode/utf8.first", laid_unicode_utf8_first)], narrowed := true }
def HashixNobodyUptoSaid : Prop := hashixNobodyUptoRow.holds Tryz.pinned (OpenSpec.upto hashixNobodySpec)

/-- 'vestibulelaw12.BitmapixNobody', WHERE WHAT IT READS IS OF BULK AT MOST 1048576: true; the input reads as it did. -/
def bitmapixNobodyUptoRow : OpenClaim := { program := "ytoejgkcaamkanaagreatdoor", sum := "4d665038cf95bd555dc6e1701899127ada7aa8efc3b181538bcab89a2cf8c6ba", func := "vestibule/vestibulelaw12.BitmapixNobody", spec := "bitmapixNobody", inPlace := ["internal/bytealg.abigen_runtime_cmpstring", "internal/abi.NoEscape", "internal/bytealg.CountString", "internal/bytealg.IndexByteString", "internal/bytealg.IndexString", "internal/bytealg.MakeNoZero", "slices.overlaps[vestibule/api.Item]", "slices.overlaps[int]"], unfollowed := true, recurses := true, named := ["internal/bytealg.MaxLen", "unicode/utf8.first", "unicode/utf8.acceptRanges"], loops := true, apart := false, laid := [("unicode/utf8.acceptRanges", laid_unicode_utf8_acceptRanges), ("unicode/utf8.first", laid_unicode_utf8_first)], narrowed := true }
def BitmapixNobodyUptoSaid : Prop := bitmapixNobodyUptoRow.holds Tryz.pinned (OpenSpec.upto bitmapixNobodySpec)

/-- 'vestibulelaw13.InvertedNobody', WHERE WHAT IT READS IS OF BULK AT MOST 1048576: true; the input reads as it did. -/
def invertedNobodyUptoRow : OpenClaim := { program := "ytoejgkcaamkanaagreatdoor", sum := "4d665038cf95bd555dc6e1701899127ada7aa8efc3b181538bcab89a2cf8c6ba", func := "vestibule/vestibulelaw13.InvertedNobody", spec := "invertedNobody", inPlace := ["internal/bytealg.abigen_runtime_cmpstring", "internal/abi.NoEscape", "internal/bytealg.CountString", "internal/bytealg.IndexByteString", "internal/bytealg.IndexString", "internal/bytealg.MakeNoZero", "slices.overlaps[vestibule/api.Item]", "slices.overlaps[int]"], unfollowed := true, recurses := true, named := ["internal/bytealg.MaxLen", "unicode/utf8.first", "unicode/utf8.acceptRanges"], loops := true, apart := false, laid := [("unicode/utf8.acceptRanges", laid_unicode_utf8_acceptRanges), ("unicode/utf8.first", laid_unicode_utf8_first)], narrowed := true }
def InvertedNobodyUptoSaid : Prop := invertedNobodyUptoRow.holds Tryz.pinned (OpenSpec.upto invertedNobodySpec)

end Rows
end Go.Proofs.YtoejgkcaamkanaaGreatDoor
