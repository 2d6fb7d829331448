/-
  NARROWER THAN 'FOR EVERY INPUT', by the rows' own cells (each row's printed sentence says how): EncBase: laid · EncQuoted: laid · EncBack: laid · EncFewer: laid · EncParts: laid · TopMailed: laid.
  DERIVED. THE GIVEN ROWS OF THIS SEAT. 6 by the template 'for every input the law returns true; each argument reads behind the call as it read before'; 0 by the template 'total and deterministic' (their statements: YtffjdidakeinjaaDoorTotals.lean).
  GIVEN WITH THE SEED: the statements are not yours to turn. If you find one false, say at which input.
  Laid BY PROGRAM, IN A SANDBOX (cutbox-rows.mjs): the forced cells as the released guide's own fill.sh prints them over the translation f5f715f93e2883b7… (all of the seat's roots in one cut). By AI agents, Wed Nov 11 2026. No macro, syntax, notation, axiom, sorry.
-/
import Derived.Test.YtffjdidakeinjaaDoorChecked
import GoSem.PinnedTables
import GoSem.Claim
import GoSem.ClaimJoined
import GoSem.ClaimMapViews
import Derived.JoinedTies
import Derived.KernelRfl
namespace Go.Proofs.YtffjdidakeinjaaDoor
/- THE CELL 'sum', in the pinned program and in every row, IS THE sha256 OF THE DUMP (.gsa) THAT YtffjdidakeinjaaDoorProg.lean LOADS. Nothing in Lean hashes anything: it is a label: what it is worth is what the hold of that sum in a sandbox is worth. -/
noncomputable def Tryd.pinned : Pinned := { name := "ytffjdidakeinjaadoor", sum := "f5f715f93e2883b7731f51ab5b7428e60816f4bd0d7a80fea3dd13e200066dbd", checked := Tryd.checked }
namespace Rows
def none {H : Type} : Left H := { results := [], args := [] }

/- WHAT THE LISTED PACKAGE-LEVEL VARIABLES READ AS WHEN THE CALL BEGINS. Each datum BY PROGRAM (the guide's laid-datum.mjs) off the statement by which the dump's own 'gosem.cut.vars' lays the variable. In a bare row this is a premise. The card (YtffjdidakeinjaaDoorCards.lean) ties it to the program's text. -/
def laid_unicode_utf8_acceptRanges {H : Type} : DataW H := .agg [.agg [.lit (.int .u8 128), .lit (.int .u8 191)], .agg [.lit (.int .u8 160), .lit (.int .u8 191)], .agg [.lit (.int .u8 128), .lit (.int .u8 159)], .agg [.lit (.int .u8 144), .lit (.int .u8 191)], .agg [.lit (.int .u8 128), .lit (.int .u8 143)], .agg [.lit (.int .u8 0), .lit (.int .u8 0)], .agg [.lit (.int .u8 0), .lit (.int .u8 0)], .agg [.lit (.int .u8 0), .lit (.int .u8 0)], .agg [.lit (.int .u8 0), .lit (.int .u8 0)], .agg [.lit (.int .u8 0), .lit (.int .u8 0)], .agg [.lit (.int .u8 0), .lit (.int .u8 0)], .agg [.lit (.int .u8 0), .lit (.int .u8 0)], .agg [.lit (.int .u8 0), .lit (.int .u8 0)], .agg [.lit (.int .u8 0), .lit (.int .u8 0)], .agg [.lit (.int .u8 0), .lit (.int .u8 0)], .agg [.lit (.int .u8 0), .lit (.int .u8 0)]]
/-- One of Go's own tables, pinned by name: the form's constant. -/
def laid_unicode_utf8_first : DataW Unit := Go.Pinned.utf8First
def laid_missive_runes_windows {H : Type} : DataW H := .agg [.lit (.int .i32 8364), .lit (.int .i32 65533), .lit (.int .i32 8218), .lit (.int .i32 402), .lit (.int .i32 8222), .lit (.int .i32 8230), .lit (.int .i32 8224), .lit (.int .i32 8225), .lit (.int .i32 710), .lit (.int .i32 8240), .lit (.int .i32 352), .lit (.int .i32 8249), .lit (.int .i32 338), .lit (.int .i32 65533), .lit (.int .i32 381), .lit (.int .i32 65533), .lit (.int .i32 65533), .lit (.int .i32 8216), .lit (.int .i32 8217), .lit (.int .i32 8220), .lit (.int .i32 8221), .lit (.int .i32 8226), .lit (.int .i32 8211), .lit (.int .i32 8212), .lit (.int .i32 732), .lit (.int .i32 8482), .lit (.int .i32 353), .lit (.int .i32 8250), .lit (.int .i32 339), .lit (.int .i32 65533), .lit (.int .i32 382), .lit (.int .i32 376)]

/-- 'missivelaw05.EncBase': WHATEVER THE INPUT: true; the input reads as it did. -/
def encBaseSpec : ChangeSpec := { name := "encBase", fn := fun _ => fun
  | [d1, d2] => { results := [.lit (.bool true)], args := [d1, d2] }
  | _ => none }
def encBaseRow : OpenClaim := { program := "ytffjdidakeinjaadoor", sum := "f5f715f93e2883b7731f51ab5b7428e60816f4bd0d7a80fea3dd13e200066dbd", func := "missive/missivelaw05.EncBase", spec := "encBase", inPlace := ["internal/abi.NoEscape", "internal/bytealg.IndexByteString", "internal/bytealg.IndexString"], named := ["unicode/utf8.first", "unicode/utf8.acceptRanges", "internal/bytealg.MaxLen"], apart := false, laid := [("unicode/utf8.acceptRanges", laid_unicode_utf8_acceptRanges), ("unicode/utf8.first", laid_unicode_utf8_first)] }
def EncBaseSaid : Prop := encBaseRow.holds Tryd.pinned (OpenSpec.ofChange encBaseSpec)

/-- ITS FALSE NEIGHBOUR: 'it returns false'. Refute it at one input. -/
def encBaseWrong : ChangeSpec := { name := "encBase", fn := fun _ => fun
  | [d1, d2] => { results := [.lit (.bool false)], args := [d1, d2] }
  | _ => none }
def EncBaseWrongFalsely : Prop := encBaseRow.holds Tryd.pinned (OpenSpec.ofChange encBaseWrong)

/-- 'missivelaw05.EncQuoted': WHATEVER THE INPUT: true; the input reads as it did. -/
def encQuotedSpec : ChangeSpec := { name := "encQuoted", fn := fun _ => fun
  | [d1, d2] => { results := [.lit (.bool true)], args := [d1, d2] }
  | _ => none }
def encQuotedRow : OpenClaim := { program := "ytffjdidakeinjaadoor", sum := "f5f715f93e2883b7731f51ab5b7428e60816f4bd0d7a80fea3dd13e200066dbd", func := "missive/missivelaw05.EncQuoted", spec := "encQuoted", inPlace := ["internal/bytealg.IndexByteString", "internal/bytealg.IndexString", "internal/abi.NoEscape"], named := ["unicode/utf8.first", "unicode/utf8.acceptRanges", "internal/bytealg.MaxLen"], apart := false, laid := [("unicode/utf8.acceptRanges", laid_unicode_utf8_acceptRanges), ("unicode/utf8.first", laid_unicode_utf8_first)] }
def EncQuotedSaid : Prop := encQuotedRow.holds Tryd.pinned (OpenSpec.ofChange encQuotedSpec)

/-- ITS FALSE NEIGHBOUR: 'it returns false'. Refute it at one input. -/
def encQuotedWrong : ChangeSpec := { name := "encQuoted", fn := fun _ => fun
  | [d1, d2] => { results := [.lit (.bool false)], args := [d1, d2] }
  | _ => none }
def EncQuotedWrongFalsely : Prop := encQuotedRow.holds Tryd.pinned (OpenSpec.ofChange encQuotedWrong)

/-- 'missivelaw05.EncBack': WHATEVER THE INPUT: true; the input reads as it did. -/
def encBackSpec : ChangeSpec := { name := "encBack", fn := fun _ => fun
  | [d] => { results := [.lit (.bool true)], args := [d] }
  | _ => none }
def encBackRow : OpenClaim := { program := "ytffjdidakeinjaadoor", sum := "f5f715f93e2883b7731f51ab5b7428e60816f4bd0d7a80fea3dd13e200066dbd", func := "missive/missivelaw05.EncBack", spec := "encBack", inPlace := ["internal/bytealg.IndexByteString", "internal/bytealg.IndexString", "internal/abi.NoEscape"], named := ["unicode/utf8.first", "unicode/utf8.acceptRanges", "internal/bytealg.MaxLen"], apart := false, laid := [("unicode/utf8.acceptRanges", laid_unicode_utf8_acceptRanges), ("unicode/utf8.first", laid_unicode_utf8_first)] }
def EncBackSaid : Prop := encBackRow.holds Tryd.pinned (OpenSpec.ofChange encBackSpec)

/-- ITS FALSE NEIGHBOUR: 'it returns false'. Refute it at one input. -/
def encBackWrong : ChangeSpec := { name := "encBack", fn := fun _ => fun
  | [d] => { results := [.lit (.bool false)], args := [d] }
  | _ => none }
def EncBackWrongFalsely : Prop := encBackRow.holds Tryd.pinned (OpenSpec.ofChange encBackWrong)

/-- 'missivelaw05.EncFewer': WHATEVER THE INPUT: true; the input reads as it did. -/
def encFewerSpec : ChangeSpec := { name := "encFewer", fn := fun _ => fun
  | [d] => { results := [.lit (.bool true)], args := [d] }
  | _ => none }
def encFewerRow : OpenClaim := { program := "ytffjdidakeinjaadoor", sum := "f5f715f93e2883b7731f51ab5b7428e60816f4bd0d7a80fea3dd13e200066dbd", func := "missive/missivelaw05.EncFewer", spec := "encFewer", inPlace := ["internal/bytealg.IndexByteString", "internal/bytealg.IndexString", "internal/abi.NoEscape"], named := ["unicode/utf8.first", "unicode/utf8.acceptRanges", "internal/bytealg.MaxLen"], apart := false, laid := [("unicode/utf8.acceptRanges", laid_unicode_utf8_acceptRanges), ("unicode/utf8.first", laid_unicode_utf8_first)] }
def EncFewerSaid : Prop := encFewerRow.holds Tryd.pinned (OpenSpec.ofChange encFewerSpec)

/-- ITS FALSE NEIGHBOUR: 'it returns false'. Refute it at one input. -/
def encFewerWrong : ChangeSpec := { name := "encFewer", fn := fun _ => fun
  | [d] => { results := [.lit (.bool false)], args := [d] }
  | _ => none }
def EncFewerWrongFalsely : Prop := encFewerRow.holds Tryd.pinned (OpenSpec.ofChange encFewerWrong)

/-- 'missivelaw05.EncParts': WHATEVER THE INPUT: true; the input reads as it did. -/
def encPartsSpec : ChangeSpec := { name := "encParts", fn := fun _ => fun
  | [d1, d2] => { results := [.lit (.bool true)], args := [d1, d2] }
  | _ => none }
def encPartsRow : OpenClaim := { program := "ytffjdidakeinjaadoor", sum := "f5f715f93e2883b7731f51ab5b7428e60816f4bd0d7a80fea3dd13e200066dbd", func := "missive/missivelaw05.EncParts", spec := "encParts", inPlace := ["internal/bytealg.IndexByteString", "internal/bytealg.IndexString", "internal/abi.NoEscape"], named := ["unicode/utf8.first", "unicode/utf8.acceptRanges", "internal/bytealg.MaxLen"], apart := false, laid := [("unicode/utf8.acceptRanges", laid_unicode_utf8_acceptRanges), ("unicode/utf8.first", laid_unicode_utf8_first)] }
def EncPartsSaid : Prop := encPartsRow.holds Tryd.pinned (OpenSpec.ofChange encPartsSpec)

/-- ITS FALSE NEIGHBOUR: 'it returns false'. Refute it at one input. -/
def encPartsWrong : ChangeSpec := { name := "encParts", fn := fun _ => fun
  | [d1, d2] => { results := [.lit (.bool false)], args := [d1, d2] }
  | _ => none }
def EncPartsWrongFalsely : Prop := encPartsRow.holds Tryd.pinned (OpenSpec.ofChange encPartsWrong)

/-- 'missivetop.TopMailed': WHATEVER THE INPUT: true; the input reads as it did. -/
def topMailedSpec : ChangeSpec := { name := "topMailed", fn := fun _ => fun
  | [d1, d2, d3] => { results := [.lit (.bool true)], args := [d1, d2, d3] }
  | _ => none }
def topMailedRow : OpenClaim := { program := "ytffjdidakeinjaadoor", sum := "f5f715f93e2883b7731f51ab5b7428e60816f4bd0d7a80fea3dd13e200066dbd", func := "missive/missivetop.TopMailed", spec := "topMailed", inPlace := ["internal/abi.NoEscape", "internal/bytealg.IndexByteString", "internal/bytealg.IndexString"], named := ["missive/runes.windows", "unicode/utf8.first", "unicode/utf8.acceptRanges", "internal/bytealg.MaxLen"], apart := false, laid := [("unicode/utf8.acceptRanges", laid_unicode_utf8_acceptRanges), ("missive/runes.windows", laid_missive_runes_windows), ("unicode/utf8.first", laid_unicode_utf8_first)] }
def TopMailedSaid : Prop := topMailedRow.holds Tryd.pinned (OpenSpec.ofChange topMailedSpec)

/-- ITS FALSE NEIGHBOUR: 'it returns false'. Refute it at one input. -/
def topMailedWrong : ChangeSpec := { name := "topMailed", fn := fun _ => fun
  | [d1, d2, d3] => { results := [.lit (.bool false)], args := [d1, d2, d3] }
  | _ => none }
def TopMailedWrongFalsely : Prop := topMailedRow.holds Tryd.pinned (OpenSpec.ofChange topMailedWrong)

/- THE SECOND FORM. 'bulk': how many values and letters a reading holds, each counted each time it is reached (what is shared counts as often as it is met; a slice's spare places count too). A statement '..UptoSaid' is the law's where the arguments, and the package variables that the reading takes, are together of bulk at most 1048576: NARROWER than '..Said'. Prove '..Said' where nothing that the law and all that it calls make is longer than what came in: it says more and counts as full. Else prove '..UptoSaid'. A law counts once. -/
mutual
def uptoBulk {H : Type} : DataW H → Nat
  | .lit (.string bytes) => bytes.length + 1
  | .lit _ => 1
  | .nil => 1
  | .ptr d => uptoBulk d + 1
  | .slice elems spare => uptoBulkAll elems + uptoBulkAll spare + 1
  | .agg parts => uptoBulkAll parts + 1
  | .iface _ d => uptoBulk d + 1
  | .map entries => uptoBulkEntries entries + 1
  | .held _ => 1
def uptoBulkAll {H : Type} : List (DataW H) → Nat
  | [] => 0
  | d :: r => uptoBulk d + uptoBulkAll r
def uptoBulkEntries {H : Type} : List (Lit × DataW H) → Nat
  | [] => 0
  | x :: r => uptoBulkEntry x + uptoBulkEntries r
def uptoBulkEntry {H : Type} : Lit × DataW H → Nat
  | (.string bytes, d) => bytes.length + uptoBulk d + 1
  | (_, d) => uptoBulk d + 1
 end
def uptoSmall : (H : Type) → List (DataW H) → Bool := fun _ ds => decide (uptoBulkAll ds ≤ 1048576)
def OpenSpec.upto (s : _root_.Go.ChangeSpec) : _root_.Go.OpenSpec := { _root_.Go.OpenSpec.ofChange s with cond := some uptoSmall }

/-- 'missivelaw05.EncBase', WHERE WHAT IT READS IS OF BULK AT MOST 1048576: true; the input reads as it did. -/
def encBaseUptoRow : OpenClaim := { program := "ytffjdidakeinjaadoor", sum := "f5f715f93e2883b7731f51ab5b7428e60816f4bd0d7a80fea3dd13e200066dbd", func := "missive/missivelaw05.EncBase", spec := "encBase", inPlace := ["internal/abi.NoEscape", "internal/bytealg.IndexByteString", "internal/bytealg.IndexString"], named := ["unicode/utf8.first", "unicode/utf8.acceptRanges", "internal/bytealg.MaxLen"], apart := false, laid := [("unicode/utf8.acceptRanges", laid_unicode_utf8_acceptRanges), ("unicode/utf8.first", laid_unicode_utf8_first)], narrowed := true }
def EncBaseUptoSaid : Prop := encBaseUptoRow.holds Tryd.pinned (OpenSpec.upto encBaseSpec)

/-- 'missivelaw05.EncQuoted', WHERE WHAT IT READS IS OF BULK AT MOST 1048576: true; the input reads as it did. -/
def encQuotedUptoRow : OpenClaim := { program := "ytffjdidakeinjaadoor", sum := "f5f715f93e2883b7731f51ab5b7428e60816f4bd0d7a80fea3dd13e200066dbd", func := "missive/missivelaw05.EncQuoted", spec := "encQuoted", inPlace := ["internal/bytealg.IndexByteString", "internal/bytealg.IndexString", "internal/abi.NoEscape"], named := ["unicode/utf8.first", "unicode/utf8.acceptRanges", "internal/bytealg.MaxLen"], apart := false, laid := [("unicode/utf8.acceptRanges", laid_unicode_utf8_acceptRanges), ("unicode/utf8.first", laid_unicode_utf8_first)], narrowed := true }
def EncQuotedUptoSaid : Prop := encQuotedUptoRow.holds Tryd.pinned (OpenSpec.upto encQuotedSpec)

/-- 'missivelaw05.EncBack', WHERE WHAT IT READS IS OF BULK AT MOST 1048576: true; the input reads as it did. -/
def encBackUptoRow : OpenClaim := { program := "ytffjdidakeinjaadoor", sum := "f5f715f93e2883b7731f51ab5b7428e60816f4bd0d7a80fea3dd13e200066dbd", func := "missive/missivelaw05.EncBack", spec := "encBack", inPlace := ["internal/bytealg.IndexByteString", "internal/bytealg.IndexString", "internal/abi.NoEscape"], named := ["unicode/utf8.first", "unicode/utf8.acceptRanges", "internal/bytealg.MaxLen"], apart := false, laid := [("unicode/utf8.acceptRanges", laid_unicode_utf8_acceptRanges), ("unicode/utf8.first", laid_unicode_utf8_first)], narrowed := true }
def EncBackUptoSaid : Prop := encBackUptoRow.holds Tryd.pinned (OpenSpec.upto encBackSpec)

/-- 'missivelaw05.EncFewer', WHERE WHAT IT READS IS OF BULK AT MOST 1048576: true; the input reads as it did. -/
def encFewerUptoRow : OpenClaim := { program := "ytffjdidakeinjaadoor", sum := "f5f715f93e2883b7731f51ab5b7428e60816f4bd0d7a80fea3dd13e200066dbd", func := "missive/missivelaw05.EncFewer", spec := "encFewer", inPlace := ["internal/bytealg.IndexByteString", "internal/bytealg.IndexString", "internal/abi.NoEscape"], named := ["unicode/utf8.first", "unicode/utf8.acceptRanges", "internal/bytealg.MaxLen"], apart := false, laid := [("unicode/utf8.acceptRanges", laid_unicode_utf8_acceptRanges), ("unicode/utf8.first", laid_unicode_utf8_first)], narrowed := true }
def EncFewerUptoSaid : Prop := encFewerUptoRow.holds Tryd.pinned (OpenSpec.upto encFewerSpec)

/-- 'missivelaw05.EncParts', WHERE WHAT IT READS IS OF BULK AT MOST 1048576: true; the input reads as it did. -/
def encPartsUptoRow : OpenClaim := { program := "ytffjdidakeinjaadoor", sum := "f5f715f93e2883b7731f51ab5b7428e60816f4bd0d7a80fea3dd13e200066dbd", func := "missive/missivelaw05.EncParts", spec := "encParts", inPlace := ["internal/bytealg.IndexByteString", "internal/bytealg.IndexString", "internal/abi.NoEscape"], named := ["unicode/utf8.first", "unicode/utf8.acceptRanges", "internal/bytealg.MaxLen"], apart := false, laid := [("unicode/utf8.acceptRanges", laid_unicode_utf8_acceptRanges), ("unicode/utf8.first", laid_unicode_utf8_first)], narrowed := true }
def EncPartsUptoSaid : Prop := encPartsUptoRow.holds Tryd.pinned (OpenSpec.upto encPartsSpec)

/-- 'missivetop.TopMailed', WHERE WHAT IT READS IS OF BULK AT MOST 1048576: true; the input reads as it did. -/
def topMailedUptoRow : OpenClaim := { program := "ytffjdidakeinjaadoor", sum := "f5f715f93e2883b7731f51ab5b7428e60816f4bd0d7a80fea3dd13e200066dbd", func := "missive/missivetop.TopMailed", spec := "topMailed", inPlace := ["internal/abi.NoEscape", "internal/bytealg.IndexByteString", "internal/bytealg.IndexString"], named := ["missive/runes.windows", "unicode/utf8.first", "unicode/utf8.acceptRanges", "internal/bytealg.MaxLen"], apart := false, laid := [("unicode/utf8.acceptRanges", laid_unicode_utf8_acceptRanges), ("missive/runes.windows", laid_missive_runes_windows), ("unicode/utf8.first", laid_unicode_utf8_first)], narrowed := true }
def TopMailedUptoSaid : Prop := topMailedUptoRow.holds Tryd.pinned (OpenSpec.upto topMailedSpec)

end Rows
end Go.Proofs.YtffjdidakeinjaaDoor
