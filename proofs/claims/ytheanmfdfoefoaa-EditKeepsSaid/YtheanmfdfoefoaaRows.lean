/-
  No cell of these rows narrows 'for every input' (looked for: loops, veiled, ifaces, maps, wideKeys, modest, calm, conditions, laid).
  DERIVED. THE GIVEN ROWS OF THIS SEAT. 11 by the template 'for every input the law returns true; each argument reads behind the call as it read before'; 0 by the template 'total and deterministic' (their statements: YtheanmfdfoefoaaTotals.lean).
  GIVEN WITH THE SEED: the statements are not yours to turn. If you find one false, say at which input.
  Laid BY PROGRAM, IN A SANDBOX (cutbox-rows.mjs): the forced cells as the released guide's own fill.sh prints them over the translation 31f604580198f948… (all of the seat's roots in one cut). By AI agents, Wed Nov 11 2026. No macro, syntax, notation, axiom, sorry.
-/
import Derived.Test.YtheanmfdfoefoaaChecked
import GoSem.Claim
import GoSem.ClaimJoined
import GoSem.ClaimMapViews
import Derived.JoinedTies
import Derived.KernelRfl
namespace Go.Proofs.Ytheanmfdfoefoaa
/- THE CELL 'sum', in the pinned program and in every row, IS THE sha256 OF THE DUMP (.gsa) THAT YtheanmfdfoefoaaProg.lean LOADS. Nothing in Lean hashes anything: it is a label: what it is worth is what the hold of that sum in a sandbox is worth. -/
noncomputable def Try.pinned : Pinned := { name := "ytheanmfdfoefoaa", sum := "31f604580198f948f1d75fccfdeb1109b565407968f3c75b8945ffd58a204908", checked := Try.checked }
namespace Rows
def none {H : Type} : Left H := { results := [], args := [] }

/-- 'assartlaw19.PickNext': WHATEVER THE INPUT: true; the input reads as it did. -/
def pickNextSpec : ChangeSpec := { name := "pickNext", fn := fun _ => fun
  | [d1, d2, d3] => { results := [.lit (.bool true)], args := [d1, d2, d3] }
  | _ => none }
def pickNextRow : OpenClaim := { program := "ytheanmfdfoefoaa", sum := "31f604580198f948f1d75fccfdeb1109b565407968f3c75b8945ffd58a204908", func := "assart/assartlaw19.PickNext", spec := "pickNext", unfollowed := true, recurses := true, plainKeys := false, apart := false }
def PickNextSaid : Prop := pickNextRow.holds Try.pinned (OpenSpec.ofChange pickNextSpec)

/-- ITS FALSE NEIGHBOUR: 'it returns false'. Refute it at one input. -/
def pickNextWrong : ChangeSpec := { name := "pickNext", fn := fun _ => fun
  | [d1, d2, d3] => { results := [.lit (.bool false)], args := [d1, d2, d3] }
  | _ => none }
def PickNextWrongFalsely : Prop := pickNextRow.holds Try.pinned (OpenSpec.ofChange pickNextWrong)

/-- 'assartlaw19.PickCovers': WHATEVER THE INPUT: true; the input reads as it did. -/
def pickCoversSpec : ChangeSpec := { name := "pickCovers", fn := fun _ => fun
  | [d1, d2, d3] => { results := [.lit (.bool true)], args := [d1, d2, d3] }
  | _ => none }
def pickCoversRow : OpenClaim := { program := "ytheanmfdfoefoaa", sum := "31f604580198f948f1d75fccfdeb1109b565407968f3c75b8945ffd58a204908", func := "assart/assartlaw19.PickCovers", spec := "pickCovers", unfollowed := true, recurses := true, plainKeys := false, apart := false }
def PickCoversSaid : Prop := pickCoversRow.holds Try.pinned (OpenSpec.ofChange pickCoversSpec)

/-- ITS FALSE NEIGHBOUR: 'it returns false'. Refute it at one input. -/
def pickCoversWrong : ChangeSpec := { name := "pickCovers", fn := fun _ => fun
  | [d1, d2, d3] => { results := [.lit (.bool false)], args := [d1, d2, d3] }
  | _ => none }
def PickCoversWrongFalsely : Prop := pickCoversRow.holds Try.pinned (OpenSpec.ofChange pickCoversWrong)

/-- 'assartlaw19.PickDone': WHATEVER THE INPUT: true; the input reads as it did. -/
def pickDoneSpec : ChangeSpec := { name := "pickDone", fn := fun _ => fun
  | [d1, d2, d3] => { results := [.lit (.bool true)], args := [d1, d2, d3] }
  | _ => none }
def pickDoneRow : OpenClaim := { program := "ytheanmfdfoefoaa", sum := "31f604580198f948f1d75fccfdeb1109b565407968f3c75b8945ffd58a204908", func := "assart/assartlaw19.PickDone", spec := "pickDone", unfollowed := true, recurses := true, plainKeys := false, apart := false }
def PickDoneSaid : Prop := pickDoneRow.holds Try.pinned (OpenSpec.ofChange pickDoneSpec)

/-- ITS FALSE NEIGHBOUR: 'it returns false'. Refute it at one input. -/
def pickDoneWrong : ChangeSpec := { name := "pickDone", fn := fun _ => fun
  | [d1, d2, d3] => { results := [.lit (.bool false)], args := [d1, d2, d3] }
  | _ => none }
def PickDoneWrongFalsely : Prop := pickDoneRow.holds Try.pinned (OpenSpec.ofChange pickDoneWrong)

/-- 'assartlaw19.PickEnds': WHATEVER THE INPUT: true; the input reads as it did. -/
def pickEndsSpec : ChangeSpec := { name := "pickEnds", fn := fun _ => fun
  | [d1, d2, d3] => { results := [.lit (.bool true)], args := [d1, d2, d3] }
  | _ => none }
def pickEndsRow : OpenClaim := { program := "ytheanmfdfoefoaa", sum := "31f604580198f948f1d75fccfdeb1109b565407968f3c75b8945ffd58a204908", func := "assart/assartlaw19.PickEnds", spec := "pickEnds", unfollowed := true, recurses := true, plainKeys := false, apart := false }
def PickEndsSaid : Prop := pickEndsRow.holds Try.pinned (OpenSpec.ofChange pickEndsSpec)

/-- ITS FALSE NEIGHBOUR: 'it returns false'. Refute it at one input. -/
def pickEndsWrong : ChangeSpec := { name := "pickEnds", fn := fun _ => fun
  | [d1, d2, d3] => { results := [.lit (.bool false)], args := [d1, d2, d3] }
  | _ => none }
def PickEndsWrongFalsely : Prop := pickEndsRow.holds Try.pinned (OpenSpec.ofChange pickEndsWrong)

/-- 'assartlaw17.EditOrders': WHATEVER THE INPUT: true; the input reads as it did. -/
def editOrdersSpec : ChangeSpec := { name := "editOrders", fn := fun _ => fun
  | [d1, d2] => { results := [.lit (.bool true)], args := [d1, d2] }
  | _ => none }
def editOrdersRow : OpenClaim := { program := "ytheanmfdfoefoaa", sum := "31f604580198f948f1d75fccfdeb1109b565407968f3c75b8945ffd58a204908", func := "assart/assartlaw17.EditOrders", spec := "editOrders", unfollowed := true, recurses := true, plainKeys := false, apart := false }
def EditOrdersSaid : Prop := editOrdersRow.holds Try.pinned (OpenSpec.ofChange editOrdersSpec)

/-- ITS FALSE NEIGHBOUR: 'it returns false'. Refute it at one input. -/
def editOrdersWrong : ChangeSpec := { name := "editOrders", fn := fun _ => fun
  | [d1, d2] => { results := [.lit (.bool false)], args := [d1, d2] }
  | _ => none }
def EditOrdersWrongFalsely : Prop := editOrdersRow.holds Try.pinned (OpenSpec.ofChange editOrdersWrong)

/-- 'assartlaw17.EditGoes': WHATEVER THE INPUT: true; the input reads as it did. -/
def editGoesSpec : ChangeSpec := { name := "editGoes", fn := fun _ => fun
  | [d1, d2] => { results := [.lit (.bool true)], args := [d1, d2] }
  | _ => none }
def editGoesRow : OpenClaim := { program := "ytheanmfdfoefoaa", sum := "31f604580198f948f1d75fccfdeb1109b565407968f3c75b8945ffd58a204908", func := "assart/assartlaw17.EditGoes", spec := "editGoes", unfollowed := true, recurses := true, plainKeys := false, apart := false }
def EditGoesSaid : Prop := editGoesRow.holds Try.pinned (OpenSpec.ofChange editGoesSpec)

/-- ITS FALSE NEIGHBOUR: 'it returns false'. Refute it at one input. -/
def editGoesWrong : ChangeSpec := { name := "editGoes", fn := fun _ => fun
  | [d1, d2] => { results := [.lit (.bool false)], args := [d1, d2] }
  | _ => none }
def EditGoesWrongFalsely : Prop := editGoesRow.holds Try.pinned (OpenSpec.ofChange editGoesWrong)

/-- 'assartlaw17.EditNumbers': WHATEVER THE INPUT: true; the input reads as it did. -/
def editNumbersSpec : ChangeSpec := { name := "editNumbers", fn := fun _ => fun
  | [d] => { results := [.lit (.bool true)], args := [d] }
  | _ => none }
def editNumbersRow : OpenClaim := { program := "ytheanmfdfoefoaa", sum := "31f604580198f948f1d75fccfdeb1109b565407968f3c75b8945ffd58a204908", func := "assart/assartlaw17.EditNumbers", spec := "editNumbers", unfollowed := true, recurses := true, plainKeys := false, apart := false }
def EditNumbersSaid : Prop := editNumbersRow.holds Try.pinned (OpenSpec.ofChange editNumbersSpec)

/-- ITS FALSE NEIGHBOUR: 'it returns false'. Refute it at one input. -/
def editNumbersWrong : ChangeSpec := { name := "editNumbers", fn := fun _ => fun
  | [d] => { results := [.lit (.bool false)], args := [d] }
  | _ => none }
def EditNumbersWrongFalsely : Prop := editNumbersRow.holds Try.pinned (OpenSpec.ofChange editNumbersWrong)

/-- 'assartlaw17.EditKeeps': WHATEVER THE INPUT: true; the input reads as it did. -/
def editKeepsSpec : ChangeSpec := { name := "editKeeps", fn := fun _ => fun
  | [d1, d2] => { results := [.lit (.bool true)], args := [d1, d2] }
  | _ => none }
def editKeepsRow : OpenClaim := { program := "ytheanmfdfoefoaa", sum := "31f604580198f948f1d75fccfdeb1109b565407968f3c75b8945ffd58a204908", func := "assart/assartlaw17.EditKeeps", spec := "editKeeps", unfollowed := true, recurses := true, plainKeys := false, apart := false }
def EditKeepsSaid : Prop := editKeepsRow.holds Try.pinned (OpenSpec.ofChange editKeepsSpec)

/-- ITS FALSE NEIGHBOUR: 'it returns false'. Refute it at one input. -/
def editKeepsWrong : ChangeSpec := { name := "editKeeps", fn := fun _ => fun
  | [d1, d2] => { results := [.lit (.bool false)], args := [d1, d2] }
  | _ => none }
def EditKeepsWrongFalsely : Prop := editKeepsRow.holds Try.pinned (OpenSpec.ofChange editKeepsWrong)

/-- 'assartlaw17.EditRuns': WHATEVER THE INPUT: true; the input reads as it did. -/
def editRunsSpec : ChangeSpec := { name := "editRuns", fn := fun _ => fun
  | [d1, d2] => { results := [.lit (.bool true)], args := [d1, d2] }
  | _ => none }
def editRunsRow : OpenClaim := { program := "ytheanmfdfoefoaa", sum := "31f604580198f948f1d75fccfdeb1109b565407968f3c75b8945ffd58a204908", func := "assart/assartlaw17.EditRuns", spec := "editRuns", unfollowed := true, recurses := true, plainKeys := false, apart := false }
def EditRunsSaid : Prop := editRunsRow.holds Try.pinned (OpenSpec.ofChange editRunsSpec)

/-- ITS FALSE NEIGHBOUR: 'it returns false'. Refute it at one input. -/
def editRunsWrong : ChangeSpec := { name := "editRuns", fn := fun _ => fun
  | [d1, d2] => { results := [.lit (.bool false)], args := [d1, d2] }
  | _ => none }
def EditRunsWrongFalsely : Prop := editRunsRow.holds Try.pinned (OpenSpec.ofChange editRunsWrong)

/-- 'assartlaw17.EditBytes': WHATEVER THE INPUT: true; the input reads as it did. -/
def editBytesSpec : ChangeSpec := { name := "editBytes", fn := fun _ => fun
  | [d1, d2] => { results := [.lit (.bool true)], args := [d1, d2] }
  | _ => none }
def editBytesRow : OpenClaim := { program := "ytheanmfdfoefoaa", sum := "31f604580198f948f1d75fccfdeb1109b565407968f3c75b8945ffd58a204908", func := "assart/assartlaw17.EditBytes", spec := "editBytes", unfollowed := true, recurses := true, plainKeys := false, apart := false }
def EditBytesSaid : Prop := editBytesRow.holds Try.pinned (OpenSpec.ofChange editBytesSpec)

/-- ITS FALSE NEIGHBOUR: 'it returns false'. Refute it at one input. -/
def editBytesWrong : ChangeSpec := { name := "editBytes", fn := fun _ => fun
  | [d1, d2] => { results := [.lit (.bool false)], args := [d1, d2] }
  | _ => none }
def EditBytesWrongFalsely : Prop := editBytesRow.holds Try.pinned (OpenSpec.ofChange editBytesWrong)

/-- 'assartlaw17.EditBack': WHATEVER THE INPUT: true; the input reads as it did. -/
def editBackSpec : ChangeSpec := { name := "editBack", fn := fun _ => fun
  | [d1, d2] => { results := [.lit (.bool true)], args := [d1, d2] }
  | _ => none }
def editBackRow : OpenClaim := { program := "ytheanmfdfoefoaa", sum := "31f604580198f948f1d75fccfdeb1109b565407968f3c75b8945ffd58a204908", func := "assart/assartlaw17.EditBack", spec := "editBack", unfollowed := true, recurses := true, plainKeys := false, apart := false }
def EditBackSaid : Prop := editBackRow.holds Try.pinned (OpenSpec.ofChange editBackSpec)

/-- ITS FALSE NEIGHBOUR: 'it returns false'. Refute it at one input. -/
def editBackWrong : ChangeSpec := { name := "editBack", fn := fun _ => fun
  | [d1, d2] => { results := [.lit (.bool false)], args := [d1, d2] }
  | _ => none }
def EditBackWrongFalsely : Prop := editBackRow.holds Try.pinned (OpenSpec.ofChange editBackWrong)

/- THE SECOND FORM. 'bulk': how many values and letters a reading holds, each counted each time it is reached (what is shared counts as often as it is met; a slice's spare places count too). A statement '..UptoSaid' is the law's where the arguments, and the package variables that the reading takes, are together of bulk at most 1048576: NARROWER than '..Said'. Prove '..Said' where nothing that the law and all that it calls make is longer than what came in: it says more and counts as full. Else prove '..UptoSaid'. A law counts once. -/
mutual
def uptoBulk {H : Type} : DataW H → Nat
  | .lit (.string bytes) => bytes.length + 1
  | .lit _ => 1
  | .nil => 1
  | .ptr d => uptoBulk d + 1
  | .slice elems spare => uptoBulkAll elems + uptoBulkAll spare + 1
  | .agg parts => uptoBulkAll parts + 1
  | .iface _ d => uptoBulk d + 1
  | .map entries => uptoBulkEntries entries + 1
  | .held _ => 1
def uptoBulkAll {H : Type} : List (DataW H) → Nat
  | [] => 0
  | d :: r => uptoBulk d + uptoBulkAll r
def uptoBulkEntries {H : Type} : List (Lit × DataW H) → Nat
  | [] => 0
  | x :: r => uptoBulkEntry x + uptoBulkEntries r
def uptoBulkEntry {H : Type} : Lit × DataW H → Nat
  | (.string bytes, d) => bytes.length + uptoBulk d + 1
  | (_, d) => uptoBulk d + 1
 end
def uptoSmall : (H : Type) → List (DataW H) → Bool := fun _ ds => decide (uptoBulkAll ds ≤ 1048576)
def OpenSpec.upto (s : _root_.Go.ChangeSpec) : _root_.Go.OpenSpec := { _root_.Go.OpenSpec.ofChange s with cond := some uptoSmall }

/-- 'assartlaw19.PickNext', WHERE WHAT IT READS IS OF BULK AT MOST 1048576: true; the input reads as it did. -/
def pickNextUptoRow : OpenClaim := { program := "ytheanmfdfoefoaa", sum := "31f604580198f948f1d75fccfdeb1109b565407968f3c75b8945ffd58a204908", func := "assart/assartlaw19.PickNext", spec := "pickNext", unfollowed := true, recurses := true, plainKeys := false, apart := false, narrowed := true }
def PickNextUptoSaid : Prop := pickNextUptoRow.holds Try.pinned (OpenSpec.upto pickNextSpec)

/-- 'assartlaw19.PickCovers', WHERE WHAT IT READS IS OF BULK AT MOST 1048576: true; the input reads as it did. -/
def pickCoversUptoRow : OpenClaim := { program := "ytheanmfdfoefoaa", sum := "31f604580198f948f1d75fccfdeb1109b565407968f3c75b8945ffd58a204908", func := "assart/assartlaw19.PickCovers", spec := "pickCovers", unfollowed := true, recurses := true, plainKeys := false, apart := false, narrowed := true }
def PickCoversUptoSaid : Prop := pickCoversUptoRow.holds Try.pinned (OpenSpec.upto pickCoversSpec)

/-- 'assartlaw19.PickDone', WHERE WHAT IT READS IS OF BULK AT MOST 1048576: true; the input reads as it did. -/
def pickDoneUptoRow : OpenClaim := { program := "ytheanmfdfoefoaa", sum := "31f604580198f948f1d75fccfdeb1109b565407968f3c75b8945ffd58a204908", func := "assart/assartlaw19.PickDone", spec := "pickDone", unfollowed := true, recurses := true, plainKeys := false, apart := false, narrowed := true }
def PickDoneUptoSaid : Prop := pickDoneUptoRow.holds Try.pinned (OpenSpec.upto pickDoneSpec)

/-- 'assartlaw19.PickEnds', WHERE WHAT IT READS IS OF BULK AT MOST 1048576: true; the input reads as it did. -/
def pickEndsUptoRow : OpenClaim := { program := "ytheanmfdfoefoaa", sum := "31f604580198f948f1d75fccfdeb1109b565407968f3c75b8945ffd58a204908", func := "assart/assartlaw19.PickEnds", spec := "pickEnds", unfollowed := true, recurses := true, plainKeys := false, apart := false, narrowed := true }
def PickEndsUptoSaid : Prop := pickEndsUptoRow.holds Try.pinned (OpenSpec.upto pickEndsSpec)

/-- 'assartlaw17.EditOrders', WHERE WHAT IT READS IS OF BULK AT MOST 1048576: true; the input reads as it did. -/
def editOrdersUptoRow : OpenClaim := { program := "ytheanmfdfoefoaa", sum := "31f604580198f948f1d75fccfdeb1109b565407968f3c75b8945ffd58a204908", func := "assart/assartlaw17.EditOrders", spec := "editOrders", unfollowed := true, recurses := true, plainKeys := false, apart := false, narrowed := true }
def EditOrdersUptoSaid : Prop := editOrdersUptoRow.holds Try.pinned (OpenSpec.upto editOrdersSpec)

/-- 'assartlaw17.EditGoes', WHERE WHAT IT READS IS OF BULK AT MOST 1048576: true; the input reads as it did. -/
def editGoesUptoRow : OpenClaim := { program := "ytheanmfdfoefoaa", sum := "31f604580198f948f1d75fccfdeb1109b565407968f3c75b8945ffd58a204908", func := "assart/assartlaw17.EditGoes", spec := "editGoes", unfollowed := true, recurses := true, plainKeys := false, apart := false, narrowed := true }
def EditGoesUptoSaid : Prop := editGoesUptoRow.holds Try.pinned (OpenSpec.upto editGoesSpec)

/-- 'assartlaw17.EditNumbers', WHERE WHAT IT READS IS OF BULK AT MOST 1048576: true; the input reads as it did. -/
def editNumbersUptoRow : OpenClaim := { program := "ytheanmfdfoefoaa", sum := "31f604580198f948f1d75fccfdeb1109b565407968f3c75b8945ffd58a204908", func := "assart/assartlaw17.EditNumbers", spec := "editNumbers", unfollowed := true, recurses := true, plainKeys := false, apart := false, narrowed := true }
def EditNumbersUptoSaid : Prop := editNumbersUptoRow.holds Try.pinned (OpenSpec.upto editNumbersSpec)

/-- 'assartlaw17.EditKeeps', WHERE WHAT IT READS IS OF BULK AT MOST 1048576: true; the input reads as it did. -/
def editKeepsUptoRow : OpenClaim := { program := "ytheanmfdfoefoaa", sum := "31f604580198f948f1d75fccfdeb1109b565407968f3c75b8945ffd58a204908", func := "assart/assartlaw17.EditKeeps", spec := "editKeeps", unfollowed := true, recurses := true, plainKeys := false, apart := false, narrowed := true }
def EditKeepsUptoSaid : Prop := editKeepsUptoRow.holds Try.pinned (OpenSpec.upto editKeepsSpec)

/-- 'assartlaw17.EditRuns', WHERE WHAT IT READS IS OF BULK AT MOST 1048576: true; the input reads as it did. -/
def editRunsUptoRow : OpenClaim := { program := "ytheanmfdfoefoaa", sum := "31f604580198f948f1d75fccfdeb1109b565407968f3c75b8945ffd58a204908", func := "assart/assartlaw17.EditRuns", spec := "editRuns", unfollowed := true, recurses := true, plainKeys := false, apart := false, narrowed := true }
def EditRunsUptoSaid : Prop := editRunsUptoRow.holds Try.pinned (OpenSpec.upto editRunsSpec)

/-- 'assartlaw17.EditBytes', WHERE WHAT IT READS IS OF BULK AT MOST 1048576: true; the input reads as it did. -/
def editBytesUptoRow : OpenClaim := { program := "ytheanmfdfoefoaa", sum := "31f604580198f948f1d75fccfdeb1109b565407968f3c75b8945ffd58a204908", func := "assart/assartlaw17.EditBytes", spec := "editBytes", unfollowed := true, recurses := true, plainKeys := false, apart := false, narrowed := true }
def EditBytesUptoSaid : Prop := editBytesUptoRow.holds Try.pinned (OpenSpec.upto editBytesSpec)

/-- 'assartlaw17.EditBack', WHERE WHAT IT READS IS OF BULK AT MOST 1048576: true; the input reads as it did. -/
def editBackUptoRow : OpenClaim := { program := "ytheanmfdfoefoaa", sum := "31f604580198f948f1d75fccfdeb1109b565407968f3c75b8945ffd58a204908", func := "assart/assartlaw17.EditBack", spec := "editBack", unfollowed := true, recurses := true, plainKeys := false, apart := false, narrowed := true }
def EditBackUptoSaid : Prop := editBackUptoRow.holds Try.pinned (OpenSpec.upto editBackSpec)

end Rows
end Go.Proofs.Ytheanmfdfoefoaa
