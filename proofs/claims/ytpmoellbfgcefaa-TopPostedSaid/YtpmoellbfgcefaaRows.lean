/-
  No cell of these rows narrows 'for every input' (looked for: loops, veiled, ifaces, maps, wideKeys, modest, calm, conditions, laid).
  DERIVED. THE GIVEN ROWS OF THIS SEAT. 9 by the template 'for every input the law returns true; each argument reads behind the call as it read before'; 0 by the template 'total and deterministic' (their statements: YtpmoellbfgcefaaTotals.lean).
  GIVEN WITH THE SEED: the statements are not yours to turn. If you find one false, say at which input.
  Laid BY PROGRAM, IN A SANDBOX (cutbox-rows.mjs): the forced cells as the released guide's own fill.sh prints them over the translation a971a2072c8c5a1c… (all of the seat's roots in one cut). By AI agents, Wed Nov 11 2026. No macro, syntax, notation, axiom, sorry.
-/
import Derived.Test.YtpmoellbfgcefaaChecked
import GoSem.Claim
import GoSem.ClaimJoined
import GoSem.ClaimMapViews
import Derived.JoinedTies
import Derived.KernelRfl
namespace Go.Proofs.Ytpmoellbfgcefaa
/- THE CELL 'sum', in the pinned program and in every row, IS THE sha256 OF THE DUMP (.gsa) THAT YtpmoellbfgcefaaProg.lean LOADS. Nothing in Lean hashes anything: it is a label: what it is worth is what the hold of that sum in a sandbox is worth. -/
noncomputable def Try.pinned : Pinned := { name := "ytpmoellbfgcefaa", sum := "a971a2072c8c5a1c407066ae81d0d0d8bccd40d6b42deec4178aa915c3ff0293", checked := Try.checked }
namespace Rows
def none {H : Type} : Left H := { results := [], args := [] }

/-- 'missivelaw13.PostLists': WHATEVER THE INPUT: true; the input reads as it did. -/
def postListsSpec : ChangeSpec := { name := "postLists", fn := fun _ => fun
  | [d1, d2, d3] => { results := [.lit (.bool true)], args := [d1, d2, d3] }
  | _ => none }
def postListsRow : OpenClaim := { program := "ytpmoellbfgcefaa", sum := "a971a2072c8c5a1c407066ae81d0d0d8bccd40d6b42deec4178aa915c3ff0293", func := "missive/missivelaw13.PostLists", spec := "postLists", unfollowed := true, recurses := true, apart := false }
def PostListsSaid : Prop := postListsRow.holds Try.pinned (OpenSpec.ofChange postListsSpec)

/-- ITS FALSE NEIGHBOUR: 'it returns false'. Refute it at one input. -/
def postListsWrong : ChangeSpec := { name := "postLists", fn := fun _ => fun
  | [d1, d2, d3] => { results := [.lit (.bool false)], args := [d1, d2, d3] }
  | _ => none }
def PostListsWrongFalsely : Prop := postListsRow.holds Try.pinned (OpenSpec.ofChange postListsWrong)

/-- 'missivelaw13.PostSets': WHATEVER THE INPUT: true; the input reads as it did. -/
def postSetsSpec : ChangeSpec := { name := "postSets", fn := fun _ => fun
  | [d1, d2, d3] => { results := [.lit (.bool true)], args := [d1, d2, d3] }
  | _ => none }
def postSetsRow : OpenClaim := { program := "ytpmoellbfgcefaa", sum := "a971a2072c8c5a1c407066ae81d0d0d8bccd40d6b42deec4178aa915c3ff0293", func := "missive/missivelaw13.PostSets", spec := "postSets", unfollowed := true, recurses := true, apart := false }
def PostSetsSaid : Prop := postSetsRow.holds Try.pinned (OpenSpec.ofChange postSetsSpec)

/-- ITS FALSE NEIGHBOUR: 'it returns false'. Refute it at one input. -/
def postSetsWrong : ChangeSpec := { name := "postSets", fn := fun _ => fun
  | [d1, d2, d3] => { results := [.lit (.bool false)], args := [d1, d2, d3] }
  | _ => none }
def PostSetsWrongFalsely : Prop := postSetsRow.holds Try.pinned (OpenSpec.ofChange postSetsWrong)

/-- 'missivelaw14.DictAsks': WHATEVER THE INPUT: true; the input reads as it did. -/
def dictAsksSpec : ChangeSpec := { name := "dictAsks", fn := fun _ => fun
  | [d1, d2, d3] => { results := [.lit (.bool true)], args := [d1, d2, d3] }
  | _ => none }
def dictAsksRow : OpenClaim := { program := "ytpmoellbfgcefaa", sum := "a971a2072c8c5a1c407066ae81d0d0d8bccd40d6b42deec4178aa915c3ff0293", func := "missive/missivelaw14.DictAsks", spec := "dictAsks", unfollowed := true, recurses := true, apart := false }
def DictAsksSaid : Prop := dictAsksRow.holds Try.pinned (OpenSpec.ofChange dictAsksSpec)

/-- ITS FALSE NEIGHBOUR: 'it returns false'. Refute it at one input. -/
def dictAsksWrong : ChangeSpec := { name := "dictAsks", fn := fun _ => fun
  | [d1, d2, d3] => { results := [.lit (.bool false)], args := [d1, d2, d3] }
  | _ => none }
def DictAsksWrongFalsely : Prop := dictAsksRow.holds Try.pinned (OpenSpec.ofChange dictAsksWrong)

/-- 'missivelaw14.DictBack': WHATEVER THE INPUT: true; the input reads as it did. -/
def dictBackSpec : ChangeSpec := { name := "dictBack", fn := fun _ => fun
  | [d1, d2] => { results := [.lit (.bool true)], args := [d1, d2] }
  | _ => none }
def dictBackRow : OpenClaim := { program := "ytpmoellbfgcefaa", sum := "a971a2072c8c5a1c407066ae81d0d0d8bccd40d6b42deec4178aa915c3ff0293", func := "missive/missivelaw14.DictBack", spec := "dictBack", unfollowed := true, recurses := true, apart := false }
def DictBackSaid : Prop := dictBackRow.holds Try.pinned (OpenSpec.ofChange dictBackSpec)

/-- ITS FALSE NEIGHBOUR: 'it returns false'. Refute it at one input. -/
def dictBackWrong : ChangeSpec := { name := "dictBack", fn := fun _ => fun
  | [d1, d2] => { results := [.lit (.bool false)], args := [d1, d2] }
  | _ => none }
def DictBackWrongFalsely : Prop := dictBackRow.holds Try.pinned (OpenSpec.ofChange dictBackWrong)

/-- 'missivelaw14.DictFound': WHATEVER THE INPUT: true; the input reads as it did. -/
def dictFoundSpec : ChangeSpec := { name := "dictFound", fn := fun _ => fun
  | [d1, d2] => { results := [.lit (.bool true)], args := [d1, d2] }
  | _ => none }
def dictFoundRow : OpenClaim := { program := "ytpmoellbfgcefaa", sum := "a971a2072c8c5a1c407066ae81d0d0d8bccd40d6b42deec4178aa915c3ff0293", func := "missive/missivelaw14.DictFound", spec := "dictFound", unfollowed := true, recurses := true, apart := false }
def DictFoundSaid : Prop := dictFoundRow.holds Try.pinned (OpenSpec.ofChange dictFoundSpec)

/-- ITS FALSE NEIGHBOUR: 'it returns false'. Refute it at one input. -/
def dictFoundWrong : ChangeSpec := { name := "dictFound", fn := fun _ => fun
  | [d1, d2] => { results := [.lit (.bool false)], args := [d1, d2] }
  | _ => none }
def DictFoundWrongFalsely : Prop := dictFoundRow.holds Try.pinned (OpenSpec.ofChange dictFoundWrong)

/-- 'missivetop.TopFramed': WHATEVER THE INPUT: true; the input reads as it did. -/
def topFramedSpec : ChangeSpec := { name := "topFramed", fn := fun _ => fun
  | [d1, d2, d3] => { results := [.lit (.bool true)], args := [d1, d2, d3] }
  | _ => none }
def topFramedRow : OpenClaim := { program := "ytpmoellbfgcefaa", sum := "a971a2072c8c5a1c407066ae81d0d0d8bccd40d6b42deec4178aa915c3ff0293", func := "missive/missivetop.TopFramed", spec := "topFramed", apart := false }
def TopFramedSaid : Prop := topFramedRow.holds Try.pinned (OpenSpec.ofChange topFramedSpec)

/-- ITS FALSE NEIGHBOUR: 'it returns false'. Refute it at one input. -/
def topFramedWrong : ChangeSpec := { name := "topFramed", fn := fun _ => fun
  | [d1, d2, d3] => { results := [.lit (.bool false)], args := [d1, d2, d3] }
  | _ => none }
def TopFramedWrongFalsely : Prop := topFramedRow.holds Try.pinned (OpenSpec.ofChange topFramedWrong)

/-- 'missivelaw13.PostBack': WHATEVER THE INPUT: true; the input reads as it did. -/
def postBackSpec : ChangeSpec := { name := "postBack", fn := fun _ => fun
  | [d1, d2] => { results := [.lit (.bool true)], args := [d1, d2] }
  | _ => none }
def postBackRow : OpenClaim := { program := "ytpmoellbfgcefaa", sum := "a971a2072c8c5a1c407066ae81d0d0d8bccd40d6b42deec4178aa915c3ff0293", func := "missive/missivelaw13.PostBack", spec := "postBack", unfollowed := true, recurses := true, apart := false }
def PostBackSaid : Prop := postBackRow.holds Try.pinned (OpenSpec.ofChange postBackSpec)

/-- ITS FALSE NEIGHBOUR: 'it returns false'. Refute it at one input. -/
def postBackWrong : ChangeSpec := { name := "postBack", fn := fun _ => fun
  | [d1, d2] => { results := [.lit (.bool false)], args := [d1, d2] }
  | _ => none }
def PostBackWrongFalsely : Prop := postBackRow.holds Try.pinned (OpenSpec.ofChange postBackWrong)

/-- 'missivelaw13.PostBlocks': WHATEVER THE INPUT: true; the input reads as it did. -/
def postBlocksSpec : ChangeSpec := { name := "postBlocks", fn := fun _ => fun
  | [d1, d2] => { results := [.lit (.bool true)], args := [d1, d2] }
  | _ => none }
def postBlocksRow : OpenClaim := { program := "ytpmoellbfgcefaa", sum := "a971a2072c8c5a1c407066ae81d0d0d8bccd40d6b42deec4178aa915c3ff0293", func := "missive/missivelaw13.PostBlocks", spec := "postBlocks", unfollowed := true, recurses := true, apart := false }
def PostBlocksSaid : Prop := postBlocksRow.holds Try.pinned (OpenSpec.ofChange postBlocksSpec)

/-- ITS FALSE NEIGHBOUR: 'it returns false'. Refute it at one input. -/
def postBlocksWrong : ChangeSpec := { name := "postBlocks", fn := fun _ => fun
  | [d1, d2] => { results := [.lit (.bool false)], args := [d1, d2] }
  | _ => none }
def PostBlocksWrongFalsely : Prop := postBlocksRow.holds Try.pinned (OpenSpec.ofChange postBlocksWrong)

/-- 'missivetop.TopPosted': WHATEVER THE INPUT: true; the input reads as it did. -/
def topPostedSpec : ChangeSpec := { name := "topPosted", fn := fun _ => fun
  | [d1, d2, d3] => { results := [.lit (.bool true)], args := [d1, d2, d3] }
  | _ => none }
def topPostedRow : OpenClaim := { program := "ytpmoellbfgcefaa", sum := "a971a2072c8c5a1c407066ae81d0d0d8bccd40d6b42deec4178aa915c3ff0293", func := "missive/missivetop.TopPosted", spec := "topPosted", unfollowed := true, recurses := true, apart := false }
def TopPostedSaid : Prop := topPostedRow.holds Try.pinned (OpenSpec.ofChange topPostedSpec)

/-- ITS FALSE NEIGHBOUR: 'it returns false'. Refute it at one input. -/
def topPostedWrong : ChangeSpec := { name := "topPosted", fn := fun _ => fun
  | [d1, d2, d3] => { results := [.lit (.bool false)], args := [d1, d2, d3] }
  | _ => none }
def TopPostedWrongFalsely : Prop := topPostedRow.holds Try.pinned (OpenSpec.ofChange topPostedWrong)

/- THE SECOND FORM. 'bulk': how many values and letters a reading holds, each counted each time it is reached (what is shared counts as often as it is met; a slice's spare places count too). A statement '..UptoSaid' is the law's where the arguments, and the package variables that the reading takes, are together of bulk at most 1048576: NARROWER than '..Said'. Prove '..Said' where nothing that the law and all that it calls make is longer than what came in: it says more and counts as full. Else prove '..UptoSaid'. A law counts once. -/
mutual
def uptoBulk {H : Type} : DataW H → Nat
  | .lit (.string bytes) => bytes.length + 1
  | .lit _ => 1
  | .nil => 1
  | .ptr d => uptoBulk d + 1
  | .slice elems spare => uptoBulkAll elems + uptoBulkAll spare + 1
  | .agg parts => uptoBulkAll parts + 1
  | .iface _ d => uptoBulk d + 1
  | .map entries => uptoBulkEntries entries + 1
  | .held _ => 1
def uptoBulkAll {H : Type} : List (DataW H) → Nat
  | [] => 0
  | d :: r => uptoBulk d + uptoBulkAll r
def uptoBulkEntries {H : Type} : List (Lit × DataW H) → Nat
  | [] => 0
  | x :: r => uptoBulkEntry x + uptoBulkEntries r
def uptoBulkEntry {H : Type} : Lit × DataW H → Nat
  | (.string bytes, d) => bytes.length + uptoBulk d + 1
  | (_, d) => uptoBulk d + 1
 end
def uptoSmall : (H : Type) → List (DataW H) → Bool := fun _ ds => decide (uptoBulkAll ds ≤ 1048576)
def OpenSpec.upto (s : _root_.Go.ChangeSpec) : _root_.Go.OpenSpec := { _root_.Go.OpenSpec.ofChange s with cond := some uptoSmall }

/-- 'missivelaw13.PostLists', WHERE WHAT IT READS IS OF BULK AT MOST 1048576: true; the input reads as it did. -/
def postListsUptoRow : OpenClaim := { program := "ytpmoellbfgcefaa", sum := "a971a2072c8c5a1c407066ae81d0d0d8bccd40d6b42deec4178aa915c3ff0293", func := "missive/missivelaw13.PostLists", spec := "postLists", unfollowed := true, recurses := true, apart := false, narrowed := true }
def PostListsUptoSaid : Prop := postListsUptoRow.holds Try.pinned (OpenSpec.upto postListsSpec)

/-- 'missivelaw13.PostSets', WHERE WHAT IT READS IS OF BULK AT MOST 1048576: true; the input reads as it did. -/
def postSetsUptoRow : OpenClaim := { program := "ytpmoellbfgcefaa", sum := "a971a2072c8c5a1c407066ae81d0d0d8bccd40d6b42deec4178aa915c3ff0293", func := "missive/missivelaw13.PostSets", spec := "postSets", unfollowed := true, recurses := true, apart := false, narrowed := true }
def PostSetsUptoSaid : Prop := postSetsUptoRow.holds Try.pinned (OpenSpec.upto postSetsSpec)

/-- 'missivelaw14.DictAsks', WHERE WHAT IT READS IS OF BULK AT MOST 1048576: true; the input reads as it did. -/
def dictAsksUptoRow : OpenClaim := { program := "ytpmoellbfgcefaa", sum := "a971a2072c8c5a1c407066ae81d0d0d8bccd40d6b42deec4178aa915c3ff0293", func := "missive/missivelaw14.DictAsks", spec := "dictAsks", unfollowed := true, recurses := true, apart := false, narrowed := true }
def DictAsksUptoSaid : Prop := dictAsksUptoRow.holds Try.pinned (OpenSpec.upto dictAsksSpec)

/-- 'missivelaw14.DictBack', WHERE WHAT IT READS IS OF BULK AT MOST 1048576: true; the input reads as it did. -/
def dictBackUptoRow : OpenClaim := { program := "ytpmoellbfgcefaa", sum := "a971a2072c8c5a1c407066ae81d0d0d8bccd40d6b42deec4178aa915c3ff0293", func := "missive/missivelaw14.DictBack", spec := "dictBack", unfollowed := true, recurses := true, apart := false, narrowed := true }
def DictBackUptoSaid : Prop := dictBackUptoRow.holds Try.pinned (OpenSpec.upto dictBackSpec)

/-- 'missivelaw14.DictFound', WHERE WHAT IT READS IS OF BULK AT MOST 1048576: true; the input reads as it did. -/
def dictFoundUptoRow : OpenClaim := { program := "ytpmoellbfgcefaa", sum := "a971a2072c8c5a1c407066ae81d0d0d8bccd40d6b42deec4178aa915c3ff0293", func := "missive/missivelaw14.DictFound", spec := "dictFound", unfollowed := true, recurses := true, apart := false, narrowed := true }
def DictFoundUptoSaid : Prop := dictFoundUptoRow.holds Try.pinned (OpenSpec.upto dictFoundSpec)

/-- 'missivetop.TopFramed', WHERE WHAT IT READS IS OF BULK AT MOST 1048576: true; the input reads as it did. -/
def topFramedUptoRow : OpenClaim := { program := "ytpmoellbfgcefaa", sum := "a971a2072c8c5a1c407066ae81d0d0d8bccd40d6b42deec4178aa915c3ff0293", func := "missive/missivetop.TopFramed", spec := "topFramed", apart := false, narrowed := true }
def TopFramedUptoSaid : Prop := topFramedUptoRow.holds Try.pinned (OpenSpec.upto topFramedSpec)

/-- 'missivelaw13.PostBack', WHERE WHAT IT READS IS OF BULK AT MOST 1048576: true; the input reads as it did. -/
def postBackUptoRow : OpenClaim := { program := "ytpmoellbfgcefaa", sum := "a971a2072c8c5a1c407066ae81d0d0d8bccd40d6b42deec4178aa915c3ff0293", func := "missive/missivelaw13.PostBack", spec := "postBack", unfollowed := true, recurses := true, apart := false, narrowed := true }
def PostBackUptoSaid : Prop := postBackUptoRow.holds Try.pinned (OpenSpec.upto postBackSpec)

/-- 'missivelaw13.PostBlocks', WHERE WHAT IT READS IS OF BULK AT MOST 1048576: true; the input reads as it did. -/
def postBlocksUptoRow : OpenClaim := { program := "ytpmoellbfgcefaa", sum := "a971a2072c8c5a1c407066ae81d0d0d8bccd40d6b42deec4178aa915c3ff0293", func := "missive/missivelaw13.PostBlocks", spec := "postBlocks", unfollowed := true, recurses := true, apart := false, narrowed := true }
def PostBlocksUptoSaid : Prop := postBlocksUptoRow.holds Try.pinned (OpenSpec.upto postBlocksSpec)

/-- 'missivetop.TopPosted', WHERE WHAT IT READS IS OF BULK AT MOST 1048576: true; the input reads as it did. -/
def topPostedUptoRow : OpenClaim := { program := "ytpmoellbfgcefaa", sum := "a971a2072c8c5a1c407066ae81d0d0d8bccd40d6b42deec4178aa915c3ff0293", func := "missive/missivetop.TopPosted", spec := "topPosted", unfollowed := true, recurses := true, apart := false, narrowed := true }
def TopPostedUptoSaid : Prop := topPostedUptoRow.holds Try.pinned (OpenSpec.upto topPostedSpec)

end Rows
end Go.Proofs.Ytpmoellbfgcefaa
