/-
  NARROWER THAN 'FOR EVERY INPUT', by the rows' own cells (each row's printed sentence says how): RunesNames: laid · RunesDecodes: laid · RunesEncodes: laid · RunesBack: laid · RunesAlways: laid · RunesParts: laid.
  DERIVED. THE GIVEN ROWS OF THIS SEAT. 6 by the template 'for every input the law returns true; each argument reads behind the call as it read before'; 0 by the template 'total and deterministic' (their statements: YtmjnlbjnmmmlmaaDoorTotals.lean).
  GIVEN WITH THE SEED: the statements are not yours to turn. If you find one false, say at which input.
  Laid BY PROGRAM, IN A SANDBOX (cutbox-rows.mjs): the forced cells as the released guide's own fill.sh prints them over the translation e7066243b02f53ea… (all of the seat's roots in one cut). By AI agents, Wed Nov 11 2026. No macro, syntax, notation, axiom, sorry.
-/
import Derived.Test.YtmjnlbjnmmmlmaaDoorChecked
import GoSem.PinnedTables
import GoSem.Claim
import GoSem.ClaimJoined
import GoSem.ClaimMapViews
import Derived.JoinedTies
import Derived.KernelRfl
namespace Go.Proofs.YtmjnlbjnmmmlmaaDoor
/- THE CELL 'sum', in the pinned program and in every row, IS THE sha256 OF THE DUMP (.gsa) THAT YtmjnlbjnmmmlmaaDoorProg.lean LOADS. Nothing in Lean hashes anything: it is a label: what it is worth is what the hold of that sum in a sandbox is worth. -/
noncomputable def Tryd.pinned : Pinned := { name := "ytmjnlbjnmmmlmaadoor", sum := "e7066243b02f53ea65f35a1c8391d6b4719725c6cc0d3294d79d4377634abb20", checked := Tryd.checked }
namespace Rows
def none {H : Type} : Left H := { results := [], args := [] }

/- WHAT THE LISTED PACKAGE-LEVEL VARIABLES READ AS WHEN THE CALL BEGINS. Each datum BY PROGRAM (the guide's laid-datum.mjs) off the statement by which the dump's own 'gosem.cut.vars' lays the variable. In a bare row this is a premise. The card (YtmjnlbjnmmmlmaaDoorCards.lean) ties it to the program's text. -/
def laid_unicode_utf8_acceptRanges {H : Type} : DataW H := .agg [.agg [.lit (.int .u8 128), .lit (.int .u8 191)], .agg [.lit (.int .u8 160), .lit (.int .u8 191)], .agg [.lit (.int .u8 128), .lit (.int .u8 159)], .agg [.lit (.int .u8 144), .lit (.int .u8 191)], .agg [.lit (.int .u8 128), .lit (.int .u8 143)], .agg [.lit (.int .u8 0), .lit (.int .u8 0)], .agg [.lit (.int .u8 0), .lit (.int .u8 0)], .agg [.lit (.int .u8 0), .lit (.int .u8 0)], .agg [.lit (.int .u8 0), .lit (.int .u8 0)], .agg [.lit (.int .u8 0), .lit (.int .u8 0)], .agg [.lit (.int .u8 0), .lit (.int .u8 0)], .agg [.lit (.int .u8 0), .lit (.int .u8 0)], .agg [.lit (.int .u8 0), .lit (.int .u8 0)], .agg [.lit (.int .u8 0), .lit (.int .u8 0)], .agg [.lit (.int .u8 0), .lit (.int .u8 0)], .agg [.lit (.int .u8 0), .lit (.int .u8 0)]]
def laid_missive_runes_windows {H : Type} : DataW H := .agg [.lit (.int .i32 8364), .lit (.int .i32 65533), .lit (.int .i32 8218), .lit (.int .i32 402), .lit (.int .i32 8222), .lit (.int .i32 8230), .lit (.int .i32 8224), .lit (.int .i32 8225), .lit (.int .i32 710), .lit (.int .i32 8240), .lit (.int .i32 352), .lit (.int .i32 8249), .lit (.int .i32 338), .lit (.int .i32 65533), .lit (.int .i32 381), .lit (.int .i32 65533), .lit (.int .i32 65533), .lit (.int .i32 8216), .lit (.int .i32 8217), .lit (.int .i32 8220), .lit (.int .i32 8221), .lit (.int .i32 8226), .lit (.int .i32 8211), .lit (.int .i32 8212), .lit (.int .i32 732), .lit (.int .i32 8482), .lit (.int .i32 353), .lit (.int .i32 8250), .lit (.int .i32 339), .lit (.int .i32 65533), .lit (.int .i32 382), .lit (.int .i32 376)]
/-- One of Go's own tables, pinned by name: the form's constant. -/
def laid_unicode_utf8_first : DataW Unit := Go.Pinned.utf8First

/-- 'missivelaw06.RunesNames': WHATEVER THE INPUT: true; the input reads as it did. -/
def runesNamesSpec : ChangeSpec := { name := "runesNames", fn := fun _ => fun
  | [d1, d2] => { results := [.lit (.bool true)], args := [d1, d2] }
  | _ => none }
def runesNamesRow : OpenClaim := { program := "ytmjnlbjnmmmlmaadoor", sum := "e7066243b02f53ea65f35a1c8391d6b4719725c6cc0d3294d79d4377634abb20", func := "missive/missivelaw06.RunesNames", spec := "runesNames", inPlace := ["internal/abi.NoEscape"], named := ["unicode/utf8.first", "unicode/utf8.acceptRanges", "missive/runes.windows"], apart := false, laid := [("unicode/utf8.acceptRanges", laid_unicode_utf8_acceptRanges), ("missive/runes.windows", laid_missive_runes_windows), ("unicode/utf8.first", laid_unicode_utf8_first)] }
def RunesNamesSaid : Prop := runesNamesRow.holds Tryd.pinned (OpenSpec.ofChange runesNamesSpec)

/-- ITS FALSE NEIGHBOUR: 'it returns false'. Refute it at one input. -/
def runesNamesWrong : ChangeSpec := { name := "runesNames", fn := fun _ => fun
  | [d1, d2] => { results := [.lit (.bool false)], args := [d1, d2] }
  | _ => none }
def RunesNamesWrongFalsely : Prop := runesNamesRow.holds Tryd.pinned (OpenSpec.ofChange runesNamesWrong)

/-- 'missivelaw06.RunesDecodes': WHATEVER THE INPUT: true; the input reads as it did. -/
def runesDecodesSpec : ChangeSpec := { name := "runesDecodes", fn := fun _ => fun
  | [d1, d2] => { results := [.lit (.bool true)], args := [d1, d2] }
  | _ => none }
def runesDecodesRow : OpenClaim := { program := "ytmjnlbjnmmmlmaadoor", sum := "e7066243b02f53ea65f35a1c8391d6b4719725c6cc0d3294d79d4377634abb20", func := "missive/missivelaw06.RunesDecodes", spec := "runesDecodes", inPlace := ["internal/abi.NoEscape"], named := ["unicode/utf8.first", "unicode/utf8.acceptRanges", "missive/runes.windows"], apart := false, laid := [("unicode/utf8.acceptRanges", laid_unicode_utf8_acceptRanges), ("missive/runes.windows", laid_missive_runes_windows), ("unicode/utf8.first", laid_unicode_utf8_first)] }
def RunesDecodesSaid : Prop := runesDecodesRow.holds Tryd.pinned (OpenSpec.ofChange runesDecodesSpec)

/-- ITS FALSE NEIGHBOUR: 'it returns false'. Refute it at one input. -/
def runesDecodesWrong : ChangeSpec := { name := "runesDecodes", fn := fun _ => fun
  | [d1, d2] => { results := [.lit (.bool false)], args := [d1, d2] }
  | _ => none }
def RunesDecodesWrongFalsely : Prop := runesDecodesRow.holds Tryd.pinned (OpenSpec.ofChange runesDecodesWrong)

/-- 'missivelaw06.RunesEncodes': WHATEVER THE INPUT: true; the input reads as it did. -/
def runesEncodesSpec : ChangeSpec := { name := "runesEncodes", fn := fun _ => fun
  | [d1, d2] => { results := [.lit (.bool true)], args := [d1, d2] }
  | _ => none }
def runesEncodesRow : OpenClaim := { program := "ytmjnlbjnmmmlmaadoor", sum := "e7066243b02f53ea65f35a1c8391d6b4719725c6cc0d3294d79d4377634abb20", func := "missive/missivelaw06.RunesEncodes", spec := "runesEncodes", inPlace := ["internal/abi.NoEscape"], named := ["missive/runes.windows", "unicode/utf8.first", "unicode/utf8.acceptRanges"], apart := false, laid := [("unicode/utf8.acceptRanges", laid_unicode_utf8_acceptRanges), ("missive/runes.windows", laid_missive_runes_windows), ("unicode/utf8.first", laid_unicode_utf8_first)] }
def RunesEncodesSaid : Prop := runesEncodesRow.holds Tryd.pinned (OpenSpec.ofChange runesEncodesSpec)

/-- ITS FALSE NEIGHBOUR: 'it returns false'. Refute it at one input. -/
def runesEncodesWrong : ChangeSpec := { name := "runesEncodes", fn := fun _ => fun
  | [d1, d2] => { results := [.lit (.bool false)], args := [d1, d2] }
  | _ => none }
def RunesEncodesWrongFalsely : Prop := runesEncodesRow.holds Tryd.pinned (OpenSpec.ofChange runesEncodesWrong)

/-- 'missivelaw06.RunesBack': WHATEVER THE INPUT: true; the input reads as it did. -/
def runesBackSpec : ChangeSpec := { name := "runesBack", fn := fun _ => fun
  | [d1, d2] => { results := [.lit (.bool true)], args := [d1, d2] }
  | _ => none }
def runesBackRow : OpenClaim := { program := "ytmjnlbjnmmmlmaadoor", sum := "e7066243b02f53ea65f35a1c8391d6b4719725c6cc0d3294d79d4377634abb20", func := "missive/missivelaw06.RunesBack", spec := "runesBack", inPlace := ["internal/abi.NoEscape"], named := ["unicode/utf8.first", "unicode/utf8.acceptRanges", "missive/runes.windows"], apart := false, laid := [("unicode/utf8.acceptRanges", laid_unicode_utf8_acceptRanges), ("missive/runes.windows", laid_missive_runes_windows), ("unicode/utf8.first", laid_unicode_utf8_first)] }
def RunesBackSaid : Prop := runesBackRow.holds Tryd.pinned (OpenSpec.ofChange runesBackSpec)

/-- ITS FALSE NEIGHBOUR: 'it returns false'. Refute it at one input. -/
def runesBackWrong : ChangeSpec := { name := "runesBack", fn := fun _ => fun
  | [d1, d2] => { results := [.lit (.bool false)], args := [d1, d2] }
  | _ => none }
def RunesBackWrongFalsely : Prop := runesBackRow.holds Tryd.pinned (OpenSpec.ofChange runesBackWrong)

/-- 'missivelaw06.RunesAlways': WHATEVER THE INPUT: true; the input reads as it did. -/
def runesAlwaysSpec : ChangeSpec := { name := "runesAlways", fn := fun _ => fun
  | [d1, d2] => { results := [.lit (.bool true)], args := [d1, d2] }
  | _ => none }
def runesAlwaysRow : OpenClaim := { program := "ytmjnlbjnmmmlmaadoor", sum := "e7066243b02f53ea65f35a1c8391d6b4719725c6cc0d3294d79d4377634abb20", func := "missive/missivelaw06.RunesAlways", spec := "runesAlways", inPlace := ["internal/abi.NoEscape"], named := ["unicode/utf8.first", "unicode/utf8.acceptRanges", "missive/runes.windows"], apart := false, laid := [("unicode/utf8.acceptRanges", laid_unicode_utf8_acceptRanges), ("missive/runes.windows", laid_missive_runes_windows), ("unicode/utf8.first", laid_unicode_utf8_first)] }
def RunesAlwaysSaid : Prop := runesAlwaysRow.holds Tryd.pinned (OpenSpec.ofChange runesAlwaysSpec)

/-- ITS FALSE NEIGHBOUR: 'it returns false'. Refute it at one input. -/
def runesAlwaysWrong : ChangeSpec := { name := "runesAlways", fn := fun _ => fun
  | [d1, d2] => { results := [.lit (.bool false)], args := [d1, d2] }
  | _ => none }
def RunesAlwaysWrongFalsely : Prop := runesAlwaysRow.holds Tryd.pinned (OpenSpec.ofChange runesAlwaysWrong)

/-- 'missivelaw06.RunesParts': WHATEVER THE INPUT: true; the input reads as it did. -/
def runesPartsSpec : ChangeSpec := { name := "runesParts", fn := fun _ => fun
  | [d1, d2, d3, d4, d5] => { results := [.lit (.bool true)], args := [d1, d2, d3, d4, d5] }
  | _ => none }
def runesPartsRow : OpenClaim := { program := "ytmjnlbjnmmmlmaadoor", sum := "e7066243b02f53ea65f35a1c8391d6b4719725c6cc0d3294d79d4377634abb20", func := "missive/missivelaw06.RunesParts", spec := "runesParts", inPlace := ["internal/abi.NoEscape"], named := ["unicode/utf8.first", "unicode/utf8.acceptRanges", "missive/runes.windows"], apart := false, laid := [("unicode/utf8.acceptRanges", laid_unicode_utf8_acceptRanges), ("missive/runes.windows", laid_missive_runes_windows), ("unicode/utf8.first", laid_unicode_utf8_first)] }
def RunesPartsSaid : Prop := runesPartsRow.holds Tryd.pinned (OpenSpec.ofChange runesPartsSpec)

/-- ITS FALSE NEIGHBOUR: 'it returns false'. Refute it at one input. -/
def runesPartsWrong : ChangeSpec := { name := "runesParts", fn := fun _ => fun
  | [d1, d2, d3, d4, d5] => { results := [.lit (.bool false)], args := [d1, d2, d3, d4, d5] }
  | _ => none }
def RunesPartsWrongFalsely : Prop := runesPartsRow.holds Tryd.pinned (OpenSpec.ofChange runesPartsWrong)

/- THE SECOND FORM. 'bulk': how many values and letters a reading holds, each counted each time it is reached (what is shared counts as often as it is met; a slice's spare places count too). A statement '..UptoSaid' is the law's where the arguments, and the package variables that the reading takes, are together of bulk at most 1048576: NARROWER than '..Said'. Prove '..Said' where nothing that the law and all that it calls make is longer than what came in: it says more and counts as full. Else prove '..UptoSaid'. A law counts once. -/
mutual
def uptoBulk {H : Type} : DataW H → Nat
  | .lit (.string bytes) => bytes.length + 1
  | .lit _ => 1
  | .nil => 1
  | .ptr d => uptoBulk d + 1
  | .slice elems spare => uptoBulkAll elems + uptoBulkAll spare + 1
  | .agg parts => uptoBulkAll parts + 1
  | .iface _ d => uptoBulk d + 1
  | .map entries => uptoBulkEntries entries + 1
  | .held _ => 1
def uptoBulkAll {H : Type} : List (DataW H) → Nat
  | [] => 0
  | d :: r => uptoBulk d + uptoBulkAll r
def uptoBulkEntries {H : Type} : List (Lit × DataW H) → Nat
  | [] => 0
  | x :: r => uptoBulkEntry x + uptoBulkEntries r
def uptoBulkEntry {H : Type} : Lit × DataW H → Nat
  | (.string bytes, d) => bytes.length + uptoBulk d + 1
  | (_, d) => uptoBulk d + 1
 end
def uptoSmall : (H : Type) → List (DataW H) → Bool := fun _ ds => decide (uptoBulkAll ds ≤ 1048576)
def OpenSpec.upto (s : _root_.Go.ChangeSpec) : _root_.Go.OpenSpec := { _root_.Go.OpenSpec.ofChange s with cond := some uptoSmall }

/-- 'missivelaw06.RunesNames', WHERE WHAT IT READS IS OF BULK AT MOST 1048576: true; the input reads as it did. -/
def runesNamesUptoRow : OpenClaim := { program := "ytmjnlbjnmmmlmaadoor", sum := "e7066243b02f53ea65f35a1c8391d6b4719725c6cc0d3294d79d4377634abb20", func := "missive/missivelaw06.RunesNames", spec := "runesNames", inPlace := ["internal/abi.NoEscape"], named := ["unicode/utf8.first", "unicode/utf8.acceptRanges", "missive/runes.windows"], apart := false, laid := [("unicode/utf8.acceptRanges", laid_unicode_utf8_acceptRanges), ("missive/runes.windows", laid_missive_runes_windows), ("unicode/utf8.first", laid_unicode_utf8_first)], narrowed := true }
def RunesNamesUptoSaid : Prop := runesNamesUptoRow.holds Tryd.pinned (OpenSpec.upto runesNamesSpec)

/-- 'missivelaw06.RunesDecodes', WHERE WHAT IT READS IS OF BULK AT MOST 1048576: true; the input reads as it did. -/
def runesDecodesUptoRow : OpenClaim := { program := "ytmjnlbjnmmmlmaadoor", sum := "e7066243b02f53ea65f35a1c8391d6b4719725c6cc0d3294d79d4377634abb20", func := "missive/missivelaw06.RunesDecodes", spec := "runesDecodes", inPlace := ["internal/abi.NoEscape"], named := ["unicode/utf8.first", "unicode/utf8.acceptRanges", "missive/runes.windows"], apart := false, laid := [("unicode/utf8.acceptRanges", laid_unicode_utf8_acceptRanges), ("missive/runes.windows", laid_missive_runes_windows), ("unicode/utf8.first", laid_unicode_utf8_first)], narrowed := true }
def RunesDecodesUptoSaid : Prop := runesDecodesUptoRow.holds Tryd.pinned (OpenSpec.upto runesDecodesSpec)

/-- 'missivelaw06.RunesEncodes', WHERE WHAT IT READS IS OF BULK AT MOST 1048576: true; the input reads as it did. -/
def runesEncodesUptoRow : OpenClaim := { program := "ytmjnlbjnmmmlmaadoor", sum := "e7066243b02f53ea65f35a1c8391d6b4719725c6cc0d3294d79d4377634abb20", func := "missive/missivelaw06.RunesEncodes", spec := "runesEncodes", inPlace := ["internal/abi.NoEscape"], named := ["missive/runes.windows", "unicode/utf8.first", "unicode/utf8.acceptRanges"], apart := false, laid := [("unicode/utf8.acceptRanges", laid_unicode_utf8_acceptRanges), ("missive/runes.windows", laid_missive_runes_windows), ("unicode/utf8.first", laid_unicode_utf8_first)], narrowed := true }
def RunesEncodesUptoSaid : Prop := runesEncodesUptoRow.holds Tryd.pinned (OpenSpec.upto runesEncodesSpec)

/-- 'missivelaw06.RunesBack', WHERE WHAT IT READS IS OF BULK AT MOST 1048576: true; the input reads as it did. -/
def runesBackUptoRow : OpenClaim := { program := "ytmjnlbjnmmmlmaadoor", sum := "e7066243b02f53ea65f35a1c8391d6b4719725c6cc0d3294d79d4377634abb20", func := "missive/missivelaw06.RunesBack", spec := "runesBack", inPlace := ["internal/abi.NoEscape"], named := ["unicode/utf8.first", "unicode/utf8.acceptRanges", "missive/runes.windows"], apart := false, laid := [("unicode/utf8.acceptRanges", laid_unicode_utf8_acceptRanges), ("missive/runes.windows", laid_missive_runes_windows), ("unicode/utf8.first", laid_unicode_utf8_first)], narrowed := true }
def RunesBackUptoSaid : Prop := runesBackUptoRow.holds Tryd.pinned (OpenSpec.upto runesBackSpec)

/-- 'missivelaw06.RunesAlways', WHERE WHAT IT READS IS OF BULK AT MOST 1048576: true; the input reads as it did. -/
def runesAlwaysUptoRow : OpenClaim := { program := "ytmjnlbjnmmmlmaadoor", sum := "e7066243b02f53ea65f35a1c8391d6b4719725c6cc0d3294d79d4377634abb20", func := "missive/missivelaw06.RunesAlways", spec := "runesAlways", inPlace := ["internal/abi.NoEscape"], named := ["unicode/utf8.first", "unicode/utf8.acceptRanges", "missive/runes.windows"], apart := false, laid := [("unicode/utf8.acceptRanges", laid_unicode_utf8_acceptRanges), ("missive/runes.windows", laid_missive_runes_windows), ("unicode/utf8.first", laid_unicode_utf8_first)], narrowed := true }
def RunesAlwaysUptoSaid : Prop := runesAlwaysUptoRow.holds Tryd.pinned (OpenSpec.upto runesAlwaysSpec)

/-- 'missivelaw06.RunesParts', WHERE WHAT IT READS IS OF BULK AT MOST 1048576: true; the input reads as it did. -/
def runesPartsUptoRow : OpenClaim := { program := "ytmjnlbjnmmmlmaadoor", sum := "e7066243b02f53ea65f35a1c8391d6b4719725c6cc0d3294d79d4377634abb20", func := "missive/missivelaw06.RunesParts", spec := "runesParts", inPlace := ["internal/abi.NoEscape"], named := ["unicode/utf8.first", "unicode/utf8.acceptRanges", "missive/runes.windows"], apart := false, laid := [("unicode/utf8.acceptRanges", laid_unicode_utf8_acceptRanges), ("missive/runes.windows", laid_missive_runes_windows), ("unicode/utf8.first", laid_unicode_utf8_first)], narrowed := true }
def RunesPartsUptoSaid : Prop := runesPartsUptoRow.holds Tryd.pinned (OpenSpec.upto runesPartsSpec)

end Rows
end Go.Proofs.YtmjnlbjnmmmlmaaDoor
