/-
  No cell of these rows narrows 'for every input' (looked for: loops, veiled, ifaces, maps, wideKeys, modest, calm, conditions, laid).
  DERIVED. THE GIVEN ROWS OF THIS SEAT. 3 by the template 'for every input the law returns true; each argument reads behind the call as it read before'; 0 by the template 'total and deterministic' (their statements: YticplbnnmajcpaaTotals.lean).
  GIVEN WITH THE SEED: the statements are not yours to turn. If you find one false, say at which input.
  Laid BY PROGRAM, IN A SANDBOX (cutbox-rows.mjs): the forced cells as the released guide's own fill.sh prints them over the translation d10e2d9fcafcb184… (all of the seat's roots in one cut). By AI agents, Wed Nov 11 2026. No macro, syntax, notation, axiom, sorry.
-/
import Derived.Test.YticplbnnmajcpaaChecked
import GoSem.Claim
import GoSem.ClaimJoined
import GoSem.ClaimMapViews
import Derived.JoinedTies
import Derived.KernelRfl
namespace Go.Proofs.Yticplbnnmajcpaa
/- THE CELL 'sum', in the pinned program and in every row, IS THE sha256 OF THE DUMP (.gsa) THAT YticplbnnmajcpaaProg.lean LOADS. Nothing in Lean hashes anything: it is a label: what it is worth is what the hold of that sum in a sandbox is worth. -/
noncomputable def Try.pinned : Pinned := { name := "yticplbnnmajcpaa", sum := "d10e2d9fcafcb1849d269ebc12fff20754be8985aef325cc9d96c37117ddc03c", checked := Try.checked }
namespace Rows
def none {H : Type} : Left H := { results := [], args := [] }

/-- 'assartlaw16.KeepKeeps': WHATEVER THE INPUT: true; the input reads as it did. -/
def keepKeepsSpec : ChangeSpec := { name := "keepKeeps", fn := fun _ => fun
  | [d1, d2] => { results := [.lit (.bool true)], args := [d1, d2] }
  | _ => none }
def keepKeepsRow : OpenClaim := { program := "yticplbnnmajcpaa", sum := "d10e2d9fcafcb1849d269ebc12fff20754be8985aef325cc9d96c37117ddc03c", func := "assart/assartlaw16.KeepKeeps", spec := "keepKeeps", inPlace := ["internal/bytealg.abigen_runtime_cmpstring"], recurses := true, plainKeys := false, apart := false }
def KeepKeepsSaid : Prop := keepKeepsRow.holds Try.pinned (OpenSpec.ofChange keepKeepsSpec)

/-- ITS FALSE NEIGHBOUR: 'it returns false'. Refute it at one input. -/
def keepKeepsWrong : ChangeSpec := { name := "keepKeeps", fn := fun _ => fun
  | [d1, d2] => { results := [.lit (.bool false)], args := [d1, d2] }
  | _ => none }
def KeepKeepsWrongFalsely : Prop := keepKeepsRow.holds Try.pinned (OpenSpec.ofChange keepKeepsWrong)

/-- 'assartlaw17.EditKeeps': WHATEVER THE INPUT: true; the input reads as it did. -/
def editKeepsSpec : ChangeSpec := { name := "editKeeps", fn := fun _ => fun
  | [d1, d2] => { results := [.lit (.bool true)], args := [d1, d2] }
  | _ => none }
def editKeepsRow : OpenClaim := { program := "yticplbnnmajcpaa", sum := "d10e2d9fcafcb1849d269ebc12fff20754be8985aef325cc9d96c37117ddc03c", func := "assart/assartlaw17.EditKeeps", spec := "editKeeps", unfollowed := true, recurses := true, plainKeys := false, apart := false }
def EditKeepsSaid : Prop := editKeepsRow.holds Try.pinned (OpenSpec.ofChange editKeepsSpec)

/-- ITS FALSE NEIGHBOUR: 'it returns false'. Refute it at one input. -/
def editKeepsWrong : ChangeSpec := { name := "editKeeps", fn := fun _ => fun
  | [d1, d2] => { results := [.lit (.bool false)], args := [d1, d2] }
  | _ => none }
def EditKeepsWrongFalsely : Prop := editKeepsRow.holds Try.pinned (OpenSpec.ofChange editKeepsWrong)

/-- 'assartlaw09.BatchKeeps': WHATEVER THE INPUT: true; the input reads as it did. -/
def batchKeepsSpec : ChangeSpec := { name := "batchKeeps", fn := fun _ => fun
  | [d1, d2] => { results := [.lit (.bool true)], args := [d1, d2] }
  | _ => none }
def batchKeepsRow : OpenClaim := { program := "yticplbnnmajcpaa", sum := "d10e2d9fcafcb1849d269ebc12fff20754be8985aef325cc9d96c37117ddc03c", func := "assart/assartlaw09.BatchKeeps", spec := "batchKeeps", inPlace := ["internal/bytealg.abigen_runtime_cmpstring"], unfollowed := true, recurses := true, plainKeys := false, apart := false }
def BatchKeepsSaid : Prop := batchKeepsRow.holds Try.pinned (OpenSpec.ofChange batchKeepsSpec)

/-- ITS FALSE NEIGHBOUR: 'it returns false'. Refute it at one input. -/
def batchKeepsWrong : ChangeSpec := { name := "batchKeeps", fn := fun _ => fun
  | [d1, d2] => { results := [.lit (.bool false)], args := [d1, d2] }
  | _ => none }
def BatchKeepsWrongFalsely : Prop := batchKeepsRow.holds Try.pinned (OpenSpec.ofChange batchKeepsWrong)

/- THE SECOND FORM. 'bulk': how many values and letters a reading holds, each counted each time it is reached (what is shared counts as often as it is met; a slice's spare places count too). A statement '..UptoSaid' is the law's where the arguments, and the package variables that the reading takes, are together of bulk at most 1048576: NARROWER than '..Said'. Prove '..Said' where nothing that the law and all that it calls make is longer than what came in: it says more and counts as full. Else prove '..UptoSaid'. A law counts once. -/
mutual
def uptoBulk {H : Type} : DataW H → Nat
  | .lit (.string bytes) => bytes.length + 1
  | .lit _ => 1
  | .nil => 1
  | .ptr d => uptoBulk d + 1
  | .slice elems spare => uptoBulkAll elems + uptoBulkAll spare + 1
  | .agg parts => uptoBulkAll parts + 1
  | .iface _ d => uptoBulk d + 1
  | .map entries => uptoBulkEntries entries + 1
  | .held _ => 1
def uptoBulkAll {H : Type} : List (DataW H) → Nat
  | [] => 0
  | d :: r => uptoBulk d + uptoBulkAll r
def uptoBulkEntries {H : Type} : List (Lit × DataW H) → Nat
  | [] => 0
  | x :: r => uptoBulkEntry x + uptoBulkEntries r
def uptoBulkEntry {H : Type} : Lit × DataW H → Nat
  | (.string bytes, d) => bytes.length + uptoBulk d + 1
  | (_, d) => uptoBulk d + 1
 end
def uptoSmall : (H : Type) → List (DataW H) → Bool := fun _ ds => decide (uptoBulkAll ds ≤ 1048576)
def OpenSpec.upto (s : _root_.Go.ChangeSpec) : _root_.Go.OpenSpec := { _root_.Go.OpenSpec.ofChange s with cond := some uptoSmall }

/-- 'assartlaw16.KeepKeeps', WHERE WHAT IT READS IS OF BULK AT MOST 1048576: true; the input reads as it did. -/
def keepKeepsUptoRow : OpenClaim := { program := "yticplbnnmajcpaa", sum := "d10e2d9fcafcb1849d269ebc12fff20754be8985aef325cc9d96c37117ddc03c", func := "assart/assartlaw16.KeepKeeps", spec := "keepKeeps", inPlace := ["internal/bytealg.abigen_runtime_cmpstring"], recurses := true, plainKeys := false, apart := false, narrowed := true }
def KeepKeepsUptoSaid : Prop := keepKeepsUptoRow.holds Try.pinned (OpenSpec.upto keepKeepsSpec)

/-- 'assartlaw17.EditKeeps', WHERE WHAT IT READS IS OF BULK AT MOST 1048576: true; the input reads as it did. -/
def editKeepsUptoRow : OpenClaim := { program := "yticplbnnmajcpaa", sum := "d10e2d9fcafcb1849d269ebc12fff20754be8985aef325cc9d96c37117ddc03c", func := "assart/assartlaw17.EditKeeps", spec := "editKeeps", unfollowed := true, recurses := true, plainKeys := false, apart := false, narrowed := true }
def EditKeepsUptoSaid : Prop := editKeepsUptoRow.holds Try.pinned (OpenSpec.upto editKeepsSpec)

/-- 'assartlaw09.BatchKeeps', WHERE WHAT IT READS IS OF BULK AT MOST 1048576: true; the input reads as it did. -/
def batchKeepsUptoRow : OpenClaim := { program := "yticplbnnmajcpaa", sum := "d10e2d9fcafcb1849d269ebc12fff20754be8985aef325cc9d96c37117ddc03c", func := "assart/assartlaw09.BatchKeeps", spec := "batchKeeps", inPlace := ["internal/bytealg.abigen_runtime_cmpstring"], unfollowed := true, recurses := true, plainKeys := false, apart := false, narrowed := true }
def BatchKeepsUptoSaid : Prop := batchKeepsUptoRow.holds Try.pinned (OpenSpec.upto batchKeepsSpec)

end Rows
end Go.Proofs.Yticplbnnmajcpaa
