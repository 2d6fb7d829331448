/-
  No cell of these rows narrows 'for every input' (looked for: loops, veiled, ifaces, maps, wideKeys, modest, calm, conditions, laid).
  DERIVED. THE GIVEN ROWS OF THIS SEAT. 11 by the template 'for every input the law returns true; each argument reads behind the call as it read before'; 0 by the template 'total and deterministic' (their statements: YtienpgbbjahadaaTotals.lean).
  GIVEN WITH THE SEED: the statements are not yours to turn. If you find one false, say at which input.
  Laid BY PROGRAM, IN A SANDBOX (cutbox-rows.mjs): the forced cells as the released guide's own fill.sh prints them over the translation de59e5480ed5d243… (all of the seat's roots in one cut). By AI agents, Wed Nov 11 2026. No macro, syntax, notation, axiom, sorry.
-/
import Derived.Test.YtienpgbbjahadaaChecked
import GoSem.Claim
import GoSem.ClaimJoined
import GoSem.ClaimMapViews
import Derived.JoinedTies
import Derived.KernelRfl
namespace Go.Proofs.Ytienpgbbjahadaa
/- THE CELL 'sum', in the pinned program and in every row, IS THE sha256 OF THE DUMP (.gsa) THAT YtienpgbbjahadaaProg.lean LOADS. Nothing in Lean hashes anything: it is a label: what it is worth is what the hold of that sum in a sandbox is worth. -/
noncomputable def Try.pinned : Pinned := { name := "ytienpgbbjahadaa", sum := "de59e5480ed5d24394f9eda7901416ed36052e434c43a059034614f1c3e5ef20", checked := Try.checked }
namespace Rows
def none {H : Type} : Left H := { results := [], args := [] }

/-- 'missivelaw01.VariNumbers': WHATEVER THE INPUT: true; the input reads as it did. -/
def variNumbersSpec : ChangeSpec := { name := "variNumbers", fn := fun _ => fun
  | [d1, d2] => { results := [.lit (.bool true)], args := [d1, d2] }
  | _ => none }
def variNumbersRow : OpenClaim := { program := "ytienpgbbjahadaa", sum := "de59e5480ed5d24394f9eda7901416ed36052e434c43a059034614f1c3e5ef20", func := "missive/missivelaw01.VariNumbers", spec := "variNumbers", apart := false }
def VariNumbersSaid : Prop := variNumbersRow.holds Try.pinned (OpenSpec.ofChange variNumbersSpec)

/-- ITS FALSE NEIGHBOUR: 'it returns false'. Refute it at one input. -/
def variNumbersWrong : ChangeSpec := { name := "variNumbers", fn := fun _ => fun
  | [d1, d2] => { results := [.lit (.bool false)], args := [d1, d2] }
  | _ => none }
def VariNumbersWrongFalsely : Prop := variNumbersRow.holds Try.pinned (OpenSpec.ofChange variNumbersWrong)

/-- 'missivelaw01.VariEven': WHATEVER THE INPUT: true; the input reads as it did. -/
def variEvenSpec : ChangeSpec := { name := "variEven", fn := fun _ => fun
  | [d1, d2] => { results := [.lit (.bool true)], args := [d1, d2] }
  | _ => none }
def variEvenRow : OpenClaim := { program := "ytienpgbbjahadaa", sum := "de59e5480ed5d24394f9eda7901416ed36052e434c43a059034614f1c3e5ef20", func := "missive/missivelaw01.VariEven", spec := "variEven", apart := false }
def VariEvenSaid : Prop := variEvenRow.holds Try.pinned (OpenSpec.ofChange variEvenSpec)

/-- ITS FALSE NEIGHBOUR: 'it returns false'. Refute it at one input. -/
def variEvenWrong : ChangeSpec := { name := "variEven", fn := fun _ => fun
  | [d1, d2] => { results := [.lit (.bool false)], args := [d1, d2] }
  | _ => none }
def VariEvenWrongFalsely : Prop := variEvenRow.holds Try.pinned (OpenSpec.ofChange variEvenWrong)

/-- 'missivelaw01.VariBack': WHATEVER THE INPUT: true; the input reads as it did. -/
def variBackSpec : ChangeSpec := { name := "variBack", fn := fun _ => fun
  | [d1, d2] => { results := [.lit (.bool true)], args := [d1, d2] }
  | _ => none }
def variBackRow : OpenClaim := { program := "ytienpgbbjahadaa", sum := "de59e5480ed5d24394f9eda7901416ed36052e434c43a059034614f1c3e5ef20", func := "missive/missivelaw01.VariBack", spec := "variBack", apart := false }
def VariBackSaid : Prop := variBackRow.holds Try.pinned (OpenSpec.ofChange variBackSpec)

/-- ITS FALSE NEIGHBOUR: 'it returns false'. Refute it at one input. -/
def variBackWrong : ChangeSpec := { name := "variBack", fn := fun _ => fun
  | [d1, d2] => { results := [.lit (.bool false)], args := [d1, d2] }
  | _ => none }
def VariBackWrongFalsely : Prop := variBackRow.holds Try.pinned (OpenSpec.ofChange variBackWrong)

/-- 'missivelaw01.VariFew': WHATEVER THE INPUT: true; the input reads as it did. -/
def variFewSpec : ChangeSpec := { name := "variFew", fn := fun _ => fun
  | [d1, d2, d3] => { results := [.lit (.bool true)], args := [d1, d2, d3] }
  | _ => none }
def variFewRow : OpenClaim := { program := "ytienpgbbjahadaa", sum := "de59e5480ed5d24394f9eda7901416ed36052e434c43a059034614f1c3e5ef20", func := "missive/missivelaw01.VariFew", spec := "variFew", apart := false }
def VariFewSaid : Prop := variFewRow.holds Try.pinned (OpenSpec.ofChange variFewSpec)

/-- ITS FALSE NEIGHBOUR: 'it returns false'. Refute it at one input. -/
def variFewWrong : ChangeSpec := { name := "variFew", fn := fun _ => fun
  | [d1, d2, d3] => { results := [.lit (.bool false)], args := [d1, d2, d3] }
  | _ => none }
def VariFewWrongFalsely : Prop := variFewRow.holds Try.pinned (OpenSpec.ofChange variFewWrong)

/-- 'missivelaw01.VariLists': WHATEVER THE INPUT: true; the input reads as it did. -/
def variListsSpec : ChangeSpec := { name := "variLists", fn := fun _ => fun
  | [d1, d2] => { results := [.lit (.bool true)], args := [d1, d2] }
  | _ => none }
def variListsRow : OpenClaim := { program := "ytienpgbbjahadaa", sum := "de59e5480ed5d24394f9eda7901416ed36052e434c43a059034614f1c3e5ef20", func := "missive/missivelaw01.VariLists", spec := "variLists", apart := false }
def VariListsSaid : Prop := variListsRow.holds Try.pinned (OpenSpec.ofChange variListsSpec)

/-- ITS FALSE NEIGHBOUR: 'it returns false'. Refute it at one input. -/
def variListsWrong : ChangeSpec := { name := "variLists", fn := fun _ => fun
  | [d1, d2] => { results := [.lit (.bool false)], args := [d1, d2] }
  | _ => none }
def VariListsWrongFalsely : Prop := variListsRow.holds Try.pinned (OpenSpec.ofChange variListsWrong)

/-- 'missivelaw01.VariRead': WHATEVER THE INPUT: true; the input reads as it did. -/
def variReadSpec : ChangeSpec := { name := "variRead", fn := fun _ => fun
  | [d1, d2] => { results := [.lit (.bool true)], args := [d1, d2] }
  | _ => none }
def variReadRow : OpenClaim := { program := "ytienpgbbjahadaa", sum := "de59e5480ed5d24394f9eda7901416ed36052e434c43a059034614f1c3e5ef20", func := "missive/missivelaw01.VariRead", spec := "variRead", apart := false }
def VariReadSaid : Prop := variReadRow.holds Try.pinned (OpenSpec.ofChange variReadSpec)

/-- ITS FALSE NEIGHBOUR: 'it returns false'. Refute it at one input. -/
def variReadWrong : ChangeSpec := { name := "variRead", fn := fun _ => fun
  | [d1, d2] => { results := [.lit (.bool false)], args := [d1, d2] }
  | _ => none }
def VariReadWrongFalsely : Prop := variReadRow.holds Try.pinned (OpenSpec.ofChange variReadWrong)

/-- 'missivelaw02.RecFrames': WHATEVER THE INPUT: true; the input reads as it did. -/
def recFramesSpec : ChangeSpec := { name := "recFrames", fn := fun _ => fun
  | [d1, d2] => { results := [.lit (.bool true)], args := [d1, d2] }
  | _ => none }
def recFramesRow : OpenClaim := { program := "ytienpgbbjahadaa", sum := "de59e5480ed5d24394f9eda7901416ed36052e434c43a059034614f1c3e5ef20", func := "missive/missivelaw02.RecFrames", spec := "recFrames", apart := false }
def RecFramesSaid : Prop := recFramesRow.holds Try.pinned (OpenSpec.ofChange recFramesSpec)

/-- ITS FALSE NEIGHBOUR: 'it returns false'. Refute it at one input. -/
def recFramesWrong : ChangeSpec := { name := "recFrames", fn := fun _ => fun
  | [d1, d2] => { results := [.lit (.bool false)], args := [d1, d2] }
  | _ => none }
def RecFramesWrongFalsely : Prop := recFramesRow.holds Try.pinned (OpenSpec.ofChange recFramesWrong)

/-- 'missivelaw02.RecMany': WHATEVER THE INPUT: true; the input reads as it did. -/
def recManySpec : ChangeSpec := { name := "recMany", fn := fun _ => fun
  | [d1, d2] => { results := [.lit (.bool true)], args := [d1, d2] }
  | _ => none }
def recManyRow : OpenClaim := { program := "ytienpgbbjahadaa", sum := "de59e5480ed5d24394f9eda7901416ed36052e434c43a059034614f1c3e5ef20", func := "missive/missivelaw02.RecMany", spec := "recMany", apart := false }
def RecManySaid : Prop := recManyRow.holds Try.pinned (OpenSpec.ofChange recManySpec)

/-- ITS FALSE NEIGHBOUR: 'it returns false'. Refute it at one input. -/
def recManyWrong : ChangeSpec := { name := "recMany", fn := fun _ => fun
  | [d1, d2] => { results := [.lit (.bool false)], args := [d1, d2] }
  | _ => none }
def RecManyWrongFalsely : Prop := recManyRow.holds Try.pinned (OpenSpec.ofChange recManyWrong)

/-- 'missivelaw02.RecBack': WHATEVER THE INPUT: true; the input reads as it did. -/
def recBackSpec : ChangeSpec := { name := "recBack", fn := fun _ => fun
  | [d1, d2] => { results := [.lit (.bool true)], args := [d1, d2] }
  | _ => none }
def recBackRow : OpenClaim := { program := "ytienpgbbjahadaa", sum := "de59e5480ed5d24394f9eda7901416ed36052e434c43a059034614f1c3e5ef20", func := "missive/missivelaw02.RecBack", spec := "recBack", apart := false }
def RecBackSaid : Prop := recBackRow.holds Try.pinned (OpenSpec.ofChange recBackSpec)

/-- ITS FALSE NEIGHBOUR: 'it returns false'. Refute it at one input. -/
def recBackWrong : ChangeSpec := { name := "recBack", fn := fun _ => fun
  | [d1, d2] => { results := [.lit (.bool false)], args := [d1, d2] }
  | _ => none }
def RecBackWrongFalsely : Prop := recBackRow.holds Try.pinned (OpenSpec.ofChange recBackWrong)

/-- 'missivelaw02.RecTorn': WHATEVER THE INPUT: true; the input reads as it did. -/
def recTornSpec : ChangeSpec := { name := "recTorn", fn := fun _ => fun
  | [d1, d2] => { results := [.lit (.bool true)], args := [d1, d2] }
  | _ => none }
def recTornRow : OpenClaim := { program := "ytienpgbbjahadaa", sum := "de59e5480ed5d24394f9eda7901416ed36052e434c43a059034614f1c3e5ef20", func := "missive/missivelaw02.RecTorn", spec := "recTorn", apart := false }
def RecTornSaid : Prop := recTornRow.holds Try.pinned (OpenSpec.ofChange recTornSpec)

/-- ITS FALSE NEIGHBOUR: 'it returns false'. Refute it at one input. -/
def recTornWrong : ChangeSpec := { name := "recTorn", fn := fun _ => fun
  | [d1, d2] => { results := [.lit (.bool false)], args := [d1, d2] }
  | _ => none }
def RecTornWrongFalsely : Prop := recTornRow.holds Try.pinned (OpenSpec.ofChange recTornWrong)

/-- 'missivelaw02.RecTurned': WHATEVER THE INPUT: true; the input reads as it did. -/
def recTurnedSpec : ChangeSpec := { name := "recTurned", fn := fun _ => fun
  | [d1, d2, d3] => { results := [.lit (.bool true)], args := [d1, d2, d3] }
  | _ => none }
def recTurnedRow : OpenClaim := { program := "ytienpgbbjahadaa", sum := "de59e5480ed5d24394f9eda7901416ed36052e434c43a059034614f1c3e5ef20", func := "missive/missivelaw02.RecTurned", spec := "recTurned", apart := false }
def RecTurnedSaid : Prop := recTurnedRow.holds Try.pinned (OpenSpec.ofChange recTurnedSpec)

/-- ITS FALSE NEIGHBOUR: 'it returns false'. Refute it at one input. -/
def recTurnedWrong : ChangeSpec := { name := "recTurned", fn := fun _ => fun
  | [d1, d2, d3] => { results := [.lit (.bool false)], args := [d1, d2, d3] }
  | _ => none }
def RecTurnedWrongFalsely : Prop := recTurnedRow.holds Try.pinned (OpenSpec.ofChange recTurnedWrong)

/- THE SECOND FORM. 'bulk': how many values and letters a reading holds, each counted each time it is reached (what is shared counts as often as it is met; a slice's spare places count too). A statement '..UptoSaid' is the law's where the arguments, and the package variables that the reading takes, are together of bulk at most 1048576: NARROWER than '..Said'. Prove '..Said' where nothing that the law and all that it calls make is longer than what came in: it says more and counts as full. Else prove '..UptoSaid'. A law counts once. -/
mutual
def uptoBulk {H : Type} : DataW H → Nat
  | .lit (.string bytes) => bytes.length + 1
  | .lit _ => 1
  | .nil => 1
  | .ptr d => uptoBulk d + 1
  | .slice elems spare => uptoBulkAll elems + uptoBulkAll spare + 1
  | .agg parts => uptoBulkAll parts + 1
  | .iface _ d => uptoBulk d + 1
  | .map entries => uptoBulkEntries entries + 1
  | .held _ => 1
def uptoBulkAll {H : Type} : List (DataW H) → Nat
  | [] => 0
  | d :: r => uptoBulk d + uptoBulkAll r
def uptoBulkEntries {H : Type} : List (Lit × DataW H) → Nat
  | [] => 0
  | x :: r => uptoBulkEntry x + uptoBulkEntries r
def uptoBulkEntry {H : Type} : Lit × DataW H → Nat
  | (.string bytes, d) => bytes.length + uptoBulk d + 1
  | (_, d) => uptoBulk d + 1
 end
def uptoSmall : (H : Type) → List (DataW H) → Bool := fun _ ds => decide (uptoBulkAll ds ≤ 1048576)
def OpenSpec.upto (s : _root_.Go.ChangeSpec) : _root_.Go.OpenSpec := { _root_.Go.OpenSpec.ofChange s with cond := some uptoSmall }

/-- 'missivelaw01.VariNumbers', WHERE WHAT IT READS IS OF BULK AT MOST 1048576: true; the input reads as it did. -/
def variNumbersUptoRow : OpenClaim := { program := "ytienpgbbjahadaa", sum := "de59e5480ed5d24394f9eda7901416ed36052e434c43a059034614f1c3e5ef20", func := "missive/missivelaw01.VariNumbers", spec := "variNumbers", apart := false, narrowed := true }
def VariNumbersUptoSaid : Prop := variNumbersUptoRow.holds Try.pinned (OpenSpec.upto variNumbersSpec)

/-- 'missivelaw01.VariEven', WHERE WHAT IT READS IS OF BULK AT MOST 1048576: true; the input reads as it did. -/
def variEvenUptoRow : OpenClaim := { program := "ytienpgbbjahadaa", sum := "de59e5480ed5d24394f9eda7901416ed36052e434c43a059034614f1c3e5ef20", func := "missive/missivelaw01.VariEven", spec := "variEven", apart := false, narrowed := true }
def VariEvenUptoSaid : Prop := variEvenUptoRow.holds Try.pinned (OpenSpec.upto variEvenSpec)

/-- 'missivelaw01.VariBack', WHERE WHAT IT READS IS OF BULK AT MOST 1048576: true; the input reads as it did. -/
def variBackUptoRow : OpenClaim := { program := "ytienpgbbjahadaa", sum := "de59e5480ed5d24394f9eda7901416ed36052e434c43a059034614f1c3e5ef20", func := "missive/missivelaw01.VariBack", spec := "variBack", apart := false, narrowed := true }
def VariBackUptoSaid : Prop := variBackUptoRow.holds Try.pinned (OpenSpec.upto variBackSpec)

/-- 'missivelaw01.VariFew', WHERE WHAT IT READS IS OF BULK AT MOST 1048576: true; the input reads as it did. -/
def variFewUptoRow : OpenClaim := { program := "ytienpgbbjahadaa", sum := "de59e5480ed5d24394f9eda7901416ed36052e434c43a059034614f1c3e5ef20", func := "missive/missivelaw01.VariFew", spec := "variFew", apart := false, narrowed := true }
def VariFewUptoSaid : Prop := variFewUptoRow.holds Try.pinned (OpenSpec.upto variFewSpec)

/-- 'missivelaw01.VariLists', WHERE WHAT IT READS IS OF BULK AT MOST 1048576: true; the input reads as it did. -/
def variListsUptoRow : OpenClaim := { program := "ytienpgbbjahadaa", sum := "de59e5480ed5d24394f9eda7901416ed36052e434c43a059034614f1c3e5ef20", func := "missive/missivelaw01.VariLists", spec := "variLists", apart := false, narrowed := true }
def VariListsUptoSaid : Prop := variListsUptoRow.holds Try.pinned (OpenSpec.upto variListsSpec)

/-- 'missivelaw01.VariRead', WHERE WHAT IT READS IS OF BULK AT MOST 1048576: true; the input reads as it did. -/
def variReadUptoRow : OpenClaim := { program := "ytienpgbbjahadaa", sum := "de59e5480ed5d24394f9eda7901416ed36052e434c43a059034614f1c3e5ef20", func := "missive/missivelaw01.VariRead", spec := "variRead", apart := false, narrowed := true }
def VariReadUptoSaid : Prop := variReadUptoRow.holds Try.pinned (OpenSpec.upto variReadSpec)

/-- 'missivelaw02.RecFrames', WHERE WHAT IT READS IS OF BULK AT MOST 1048576: true; the input reads as it did. -/
def recFramesUptoRow : OpenClaim := { program := "ytienpgbbjahadaa", sum := "de59e5480ed5d24394f9eda7901416ed36052e434c43a059034614f1c3e5ef20", func := "missive/missivelaw02.RecFrames", spec := "recFrames", apart := false, narrowed := true }
def RecFramesUptoSaid : Prop := recFramesUptoRow.holds Try.pinned (OpenSpec.upto recFramesSpec)

/-- 'missivelaw02.RecMany', WHERE WHAT IT READS IS OF BULK AT MOST 1048576: true; the input reads as it did. -/
def recManyUptoRow : OpenClaim := { program := "ytienpgbbjahadaa", sum := "de59e5480ed5d24394f9eda7901416ed36052e434c43a059034614f1c3e5ef20", func := "missive/missivelaw02.RecMany", spec := "recMany", apart := false, narrowed := true }
def RecManyUptoSaid : Prop := recManyUptoRow.holds Try.pinned (OpenSpec.upto recManySpec)

/-- 'missivelaw02.RecBack', WHERE WHAT IT READS IS OF BULK AT MOST 1048576: true; the input reads as it did. -/
def recBackUptoRow : OpenClaim := { program := "ytienpgbbjahadaa", sum := "de59e5480ed5d24394f9eda7901416ed36052e434c43a059034614f1c3e5ef20", func := "missive/missivelaw02.RecBack", spec := "recBack", apart := false, narrowed := true }
def RecBackUptoSaid : Prop := recBackUptoRow.holds Try.pinned (OpenSpec.upto recBackSpec)

/-- 'missivelaw02.RecTorn', WHERE WHAT IT READS IS OF BULK AT MOST 1048576: true; the input reads as it did. -/
def recTornUptoRow : OpenClaim := { program := "ytienpgbbjahadaa", sum := "de59e5480ed5d24394f9eda7901416ed36052e434c43a059034614f1c3e5ef20", func := "missive/missivelaw02.RecTorn", spec := "recTorn", apart := false, narrowed := true }
def RecTornUptoSaid : Prop := recTornUptoRow.holds Try.pinned (OpenSpec.upto recTornSpec)

/-- 'missivelaw02.RecTurned', WHERE WHAT IT READS IS OF BULK AT MOST 1048576: true; the input reads as it did. -/
def recTurnedUptoRow : OpenClaim := { program := "ytienpgbbjahadaa", sum := "de59e5480ed5d24394f9eda7901416ed36052e434c43a059034614f1c3e5ef20", func := "missive/missivelaw02.RecTurned", spec := "recTurned", apart := false, narrowed := true }
def RecTurnedUptoSaid : Prop := recTurnedUptoRow.holds Try.pinned (OpenSpec.upto recTurnedSpec)

end Rows
end Go.Proofs.Ytienpgbbjahadaa
