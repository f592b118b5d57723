/-
  No cell of these rows narrows 'for every input' (looked for: loops, veiled, ifaces, maps, wideKeys, modest, calm, conditions, laid).
  DERIVED. THE GIVEN ROWS OF THIS SEAT. 6 by the template 'for every input the law returns true; each argument reads behind the call as it read before'; 0 by the template 'total and deterministic' (their statements: YtmgpfckkafcllaaTotals.lean).
  GIVEN WITH THE SEED: the statements are not yours to turn. If you find one false, say at which input.
  Laid BY PROGRAM, IN A SANDBOX (cutbox-rows.mjs): the forced cells as the released guide's own fill.sh prints them over the translation c7b43d6a82f2118d… (all of the seat's roots in one cut). By AI agents, Wed Nov 11 2026. No macro, syntax, notation, axiom, sorry.
-/
import Derived.Test.YtmgpfckkafcllaaChecked
import GoSem.Claim
import GoSem.ClaimJoined
import GoSem.ClaimMapViews
import Derived.JoinedTies
import Derived.KernelRfl
namespace Go.Proofs.Ytmgpfckkafcllaa
/- THE CELL 'sum', in the pinned program and in every row, IS THE sha256 OF THE DUMP (.gsa) THAT YtmgpfckkafcllaaProg.lean LOADS. Nothing in Lean hashes anything: it is a label: what it is worth is what the hold of that sum in a sandbox is worth. -/
noncomputable def Try.pinned : Pinned := { name := "ytmgpfckkafcllaa", sum := "c7b43d6a82f2118dc4175c7ec5ca9ecb31fc94ac0631a7e07e44eae1e7a533c7", checked := Try.checked }
namespace Rows
def none {H : Type} : Left H := { results := [], args := [] }

/-- 'assartlaw09.BatchSizes': WHATEVER THE INPUT: true; the input reads as it did. -/
def batchSizesSpec : ChangeSpec := { name := "batchSizes", fn := fun _ => fun
  | [d1, d2, d3] => { results := [.lit (.bool true)], args := [d1, d2, d3] }
  | _ => none }
def batchSizesRow : OpenClaim := { program := "ytmgpfckkafcllaa", sum := "c7b43d6a82f2118dc4175c7ec5ca9ecb31fc94ac0631a7e07e44eae1e7a533c7", func := "assart/assartlaw09.BatchSizes", spec := "batchSizes", unfollowed := true, recurses := true, apart := false }
def BatchSizesSaid : Prop := batchSizesRow.holds Try.pinned (OpenSpec.ofChange batchSizesSpec)

/-- ITS FALSE NEIGHBOUR: 'it returns false'. Refute it at one input. -/
def batchSizesWrong : ChangeSpec := { name := "batchSizes", fn := fun _ => fun
  | [d1, d2, d3] => { results := [.lit (.bool false)], args := [d1, d2, d3] }
  | _ => none }
def BatchSizesWrongFalsely : Prop := batchSizesRow.holds Try.pinned (OpenSpec.ofChange batchSizesWrong)

/-- 'assartlaw09.BatchBytes': WHATEVER THE INPUT: true; the input reads as it did. -/
def batchBytesSpec : ChangeSpec := { name := "batchBytes", fn := fun _ => fun
  | [d1, d2, d3] => { results := [.lit (.bool true)], args := [d1, d2, d3] }
  | _ => none }
def batchBytesRow : OpenClaim := { program := "ytmgpfckkafcllaa", sum := "c7b43d6a82f2118dc4175c7ec5ca9ecb31fc94ac0631a7e07e44eae1e7a533c7", func := "assart/assartlaw09.BatchBytes", spec := "batchBytes", unfollowed := true, recurses := true, apart := false }
def BatchBytesSaid : Prop := batchBytesRow.holds Try.pinned (OpenSpec.ofChange batchBytesSpec)

/-- ITS FALSE NEIGHBOUR: 'it returns false'. Refute it at one input. -/
def batchBytesWrong : ChangeSpec := { name := "batchBytes", fn := fun _ => fun
  | [d1, d2, d3] => { results := [.lit (.bool false)], args := [d1, d2, d3] }
  | _ => none }
def BatchBytesWrongFalsely : Prop := batchBytesRow.holds Try.pinned (OpenSpec.ofChange batchBytesWrong)

/-- 'assartlaw09.BatchBack': WHATEVER THE INPUT: true; the input reads as it did. -/
def batchBackSpec : ChangeSpec := { name := "batchBack", fn := fun _ => fun
  | [d1, d2, d3] => { results := [.lit (.bool true)], args := [d1, d2, d3] }
  | _ => none }
def batchBackRow : OpenClaim := { program := "ytmgpfckkafcllaa", sum := "c7b43d6a82f2118dc4175c7ec5ca9ecb31fc94ac0631a7e07e44eae1e7a533c7", func := "assart/assartlaw09.BatchBack", spec := "batchBack", unfollowed := true, recurses := true, apart := false }
def BatchBackSaid : Prop := batchBackRow.holds Try.pinned (OpenSpec.ofChange batchBackSpec)

/-- ITS FALSE NEIGHBOUR: 'it returns false'. Refute it at one input. -/
def batchBackWrong : ChangeSpec := { name := "batchBack", fn := fun _ => fun
  | [d1, d2, d3] => { results := [.lit (.bool false)], args := [d1, d2, d3] }
  | _ => none }
def BatchBackWrongFalsely : Prop := batchBackRow.holds Try.pinned (OpenSpec.ofChange batchBackWrong)

/-- 'assartlaw09.BatchCells': WHATEVER THE INPUT: true; the input reads as it did. -/
def batchCellsSpec : ChangeSpec := { name := "batchCells", fn := fun _ => fun
  | [d1, d2] => { results := [.lit (.bool true)], args := [d1, d2] }
  | _ => none }
def batchCellsRow : OpenClaim := { program := "ytmgpfckkafcllaa", sum := "c7b43d6a82f2118dc4175c7ec5ca9ecb31fc94ac0631a7e07e44eae1e7a533c7", func := "assart/assartlaw09.BatchCells", spec := "batchCells", inPlace := ["internal/bytealg.abigen_runtime_cmpstring"], unfollowed := true, recurses := true, apart := false }
def BatchCellsSaid : Prop := batchCellsRow.holds Try.pinned (OpenSpec.ofChange batchCellsSpec)

/-- ITS FALSE NEIGHBOUR: 'it returns false'. Refute it at one input. -/
def batchCellsWrong : ChangeSpec := { name := "batchCells", fn := fun _ => fun
  | [d1, d2] => { results := [.lit (.bool false)], args := [d1, d2] }
  | _ => none }
def BatchCellsWrongFalsely : Prop := batchCellsRow.holds Try.pinned (OpenSpec.ofChange batchCellsWrong)

/-- 'assartlaw09.BatchLast': WHATEVER THE INPUT: true; the input reads as it did. -/
def batchLastSpec : ChangeSpec := { name := "batchLast", fn := fun _ => fun
  | [d] => { results := [.lit (.bool true)], args := [d] }
  | _ => none }
def batchLastRow : OpenClaim := { program := "ytmgpfckkafcllaa", sum := "c7b43d6a82f2118dc4175c7ec5ca9ecb31fc94ac0631a7e07e44eae1e7a533c7", func := "assart/assartlaw09.BatchLast", spec := "batchLast", unfollowed := true, recurses := true, apart := false }
def BatchLastSaid : Prop := batchLastRow.holds Try.pinned (OpenSpec.ofChange batchLastSpec)

/-- ITS FALSE NEIGHBOUR: 'it returns false'. Refute it at one input. -/
def batchLastWrong : ChangeSpec := { name := "batchLast", fn := fun _ => fun
  | [d] => { results := [.lit (.bool false)], args := [d] }
  | _ => none }
def BatchLastWrongFalsely : Prop := batchLastRow.holds Try.pinned (OpenSpec.ofChange batchLastWrong)

/-- 'assartlaw09.BatchKeeps': WHATEVER THE INPUT: true; the input reads as it did. -/
def batchKeepsSpec : ChangeSpec := { name := "batchKeeps", fn := fun _ => fun
  | [d1, d2] => { results := [.lit (.bool true)], args := [d1, d2] }
  | _ => none }
def batchKeepsRow : OpenClaim := { program := "ytmgpfckkafcllaa", sum := "c7b43d6a82f2118dc4175c7ec5ca9ecb31fc94ac0631a7e07e44eae1e7a533c7", func := "assart/assartlaw09.BatchKeeps", spec := "batchKeeps", inPlace := ["internal/bytealg.abigen_runtime_cmpstring"], unfollowed := true, recurses := true, apart := false }
def BatchKeepsSaid : Prop := batchKeepsRow.holds Try.pinned (OpenSpec.ofChange batchKeepsSpec)

/-- ITS FALSE NEIGHBOUR: 'it returns false'. Refute it at one input. -/
def batchKeepsWrong : ChangeSpec := { name := "batchKeeps", fn := fun _ => fun
  | [d1, d2] => { results := [.lit (.bool false)], args := [d1, d2] }
  | _ => none }
def BatchKeepsWrongFalsely : Prop := batchKeepsRow.holds Try.pinned (OpenSpec.ofChange batchKeepsWrong)

/- THE SECOND FORM. 'bulk': how many values and letters a reading holds, each counted each time it is reached (what is shared counts as often as it is met; a slice's spare places count too). A statement '..UptoSaid' is the law's where the arguments, and the package variables that the reading takes, are together of bulk at most 1048576: NARROWER than '..Said'. Prove '..Said' where nothing that the law and all that it calls make is longer than what came in: it says more and counts as full. Else prove '..UptoSaid'. A law counts once. -/
mutual
def uptoBulk {H : Type} : DataW H → Nat
  | .lit (.string bytes) => bytes.length + 1
  | .lit _ => 1
  | .nil => 1
  | .ptr d => uptoBulk d + 1
  | .slice elems spare => uptoBulkAll elems + uptoBulkAll spare + 1
  | .agg parts => uptoBulkAll parts + 1
  | .iface _ d => uptoBulk d + 1
  | .map entries => uptoBulkEntries entries + 1
  | .held _ => 1
def uptoBulkAll {H : Type} : List (DataW H) → Nat
  | [] => 0
  | d :: r => uptoBulk d + uptoBulkAll r
def uptoBulkEntries {H : Type} : List (Lit × DataW H) → Nat
  | [] => 0
  | x :: r => uptoBulkEntry x + uptoBulkEntries r
def uptoBulkEntry {H : Type} : Lit × DataW H → Nat
  | (.string bytes, d) => bytes.length + uptoBulk d + 1
  | (_, d) => uptoBulk d + 1
 end
def uptoSmall : (H : Type) → List (DataW H) → Bool := fun _ ds => decide (uptoBulkAll ds ≤ 1048576)
def OpenSpec.upto (s : _root_.Go.ChangeSpec) : _root_.Go.OpenSpec := { _root_.Go.OpenSpec.ofChange s with cond := some uptoSmall }

/-- 'assartlaw09.BatchSizes', WHERE WHAT IT READS IS OF BULK AT MOST 1048576: true; the input reads as it did. -/
def batchSizesUptoRow : OpenClaim := { program := "ytmgpfckkafcllaa", sum := "c7b43d6a82f2118dc4175c7ec5ca9ecb31fc94ac0631a7e07e44eae1e7a533c7", func := "assart/assartlaw09.BatchSizes", spec := "batchSizes", unfollowed := true, recurses := true, apart := false, narrowed := true }
def BatchSizesUptoSaid : Prop := batchSizesUptoRow.holds Try.pinned (OpenSpec.upto batchSizesSpec)

/-- 'assartlaw09.BatchBytes', WHERE WHAT IT READS IS OF BULK AT MOST 1048576: true; the input reads as it did. -/
def batchBytesUptoRow : OpenClaim := { program := "ytmgpfckkafcllaa", sum := "c7b43d6a82f2118dc4175c7ec5ca9ecb31fc94ac0631a7e07e44eae1e7a533c7", func := "assart/assartlaw09.BatchBytes", spec := "batchBytes", unfollowed := true, recurses := true, apart := false, narrowed := true }
def BatchBytesUptoSaid : Prop := batchBytesUptoRow.holds Try.pinned (OpenSpec.upto batchBytesSpec)

/-- 'assartlaw09.BatchBack', WHERE WHAT IT READS IS OF BULK AT MOST 1048576: true; the input reads as it did. -/
def batchBackUptoRow : OpenClaim := { program := "ytmgpfckkafcllaa", sum := "c7b43d6a82f2118dc4175c7ec5ca9ecb31fc94ac0631a7e07e44eae1e7a533c7", func := "assart/assartlaw09.BatchBack", spec := "batchBack", unfollowed := true, recurses := true, apart := false, narrowed := true }
def BatchBackUptoSaid : Prop := batchBackUptoRow.holds Try.pinned (OpenSpec.upto batchBackSpec)

/-- 'assartlaw09.BatchCells', WHERE WHAT IT READS IS OF BULK AT MOST 1048576: true; the input reads as it did. -/
def batchCellsUptoRow : OpenClaim := { program := "ytmgpfckkafcllaa", sum := "c7b43d6a82f2118dc4175c7ec5ca9ecb31fc94ac0631a7e07e44eae1e7a533c7", func := "assart/assartlaw09.BatchCells", spec := "batchCells", inPlace := ["internal/bytealg.abigen_runtime_cmpstring"], unfollowed := true, recurses := true, apart := false, narrowed := true }
def BatchCellsUptoSaid : Prop := batchCellsUptoRow.holds Try.pinned (OpenSpec.upto batchCellsSpec)

/-- 'assartlaw09.BatchLast', WHERE WHAT IT READS IS OF BULK AT MOST 1048576: true; the input reads as it did. -/
def batchLastUptoRow : OpenClaim := { program := "ytmgpfckkafcllaa", sum := "c7b43d6a82f2118dc4175c7ec5ca9ecb31fc94ac0631a7e07e44eae1e7a533c7", func := "assart/assartlaw09.BatchLast", spec := "batchLast", unfollowed := true, recurses := true, apart := false, narrowed := true }
def BatchLastUptoSaid : Prop := batchLastUptoRow.holds Try.pinned (OpenSpec.upto batchLastSpec)

/-- 'assartlaw09.BatchKeeps', WHERE WHAT IT READS IS OF BULK AT MOST 1048576: true; the input reads as it did. -/
def batchKeepsUptoRow : OpenClaim := { program := "ytmgpfckkafcllaa", sum := "c7b43d6a82f2118dc4175c7ec5ca9ecb31fc94ac0631a7e07e44eae1e7a533c7", func := "assart/assartlaw09.BatchKeeps", spec := "batchKeeps", inPlace := ["internal/bytealg.abigen_runtime_cmpstring"], unfollowed := true, recurses := true, apart := false, narrowed := true }
def BatchKeepsUptoSaid : Prop := batchKeepsUptoRow.holds Try.pinned (OpenSpec.upto batchKeepsSpec)

end Rows
end Go.Proofs.Ytmgpfckkafcllaa
