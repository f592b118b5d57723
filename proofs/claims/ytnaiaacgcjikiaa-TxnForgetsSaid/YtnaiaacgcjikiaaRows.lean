/-
  No cell of these rows narrows 'for every input' (looked for: loops, veiled, ifaces, maps, wideKeys, modest, calm, conditions, laid).
  DERIVED. THE GIVEN ROWS OF THIS SEAT. 3 by the template 'for every input the law returns true; each argument reads behind the call as it read before'; 0 by the template 'total and deterministic' (their statements: YtnaiaacgcjikiaaTotals.lean).
  GIVEN WITH THE SEED: the statements are not yours to turn. If you find one false, say at which input.
  Laid BY PROGRAM, IN A SANDBOX (cutbox-rows.mjs): the forced cells as the released guide's own fill.sh prints them over the translation 91a5c8414116903f… (all of the seat's roots in one cut). By AI agents, Wed Nov 11 2026. No macro, syntax, notation, axiom, sorry.
-/
import Derived.Test.YtnaiaacgcjikiaaChecked
import GoSem.Claim
import GoSem.ClaimJoined
import GoSem.ClaimMapViews
import Derived.JoinedTies
import Derived.KernelRfl
namespace Go.Proofs.Ytnaiaacgcjikiaa
/- THE CELL 'sum', in the pinned program and in every row, IS THE sha256 OF THE DUMP (.gsa) THAT YtnaiaacgcjikiaaProg.lean LOADS. Nothing in Lean hashes anything: it is a label: what it is worth is what the hold of that sum in a sandbox is worth. -/
noncomputable def Try.pinned : Pinned := { name := "ytnaiaacgcjikiaa", sum := "91a5c8414116903f1a2378def7180adabfacaa4db42ba3ca38fcf5803331fad3", checked := Try.checked }
namespace Rows
def none {H : Type} : Left H := { results := [], args := [] }

/-- 'assartlaw21.TxnFirst': WHATEVER THE INPUT: true; the input reads as it did. -/
def txnFirstSpec : ChangeSpec := { name := "txnFirst", fn := fun _ => fun
  | [d1, d2] => { results := [.lit (.bool true)], args := [d1, d2] }
  | _ => none }
def txnFirstRow : OpenClaim := { program := "ytnaiaacgcjikiaa", sum := "91a5c8414116903f1a2378def7180adabfacaa4db42ba3ca38fcf5803331fad3", func := "assart/assartlaw21.TxnFirst", spec := "txnFirst", unfollowed := true, recurses := true, plainKeys := false, apart := false }
def TxnFirstSaid : Prop := txnFirstRow.holds Try.pinned (OpenSpec.ofChange txnFirstSpec)

/-- ITS FALSE NEIGHBOUR: 'it returns false'. Refute it at one input. -/
def txnFirstWrong : ChangeSpec := { name := "txnFirst", fn := fun _ => fun
  | [d1, d2] => { results := [.lit (.bool false)], args := [d1, d2] }
  | _ => none }
def TxnFirstWrongFalsely : Prop := txnFirstRow.holds Try.pinned (OpenSpec.ofChange txnFirstWrong)

/-- 'assartlaw21.TxnBounds': WHATEVER THE INPUT: true; the input reads as it did. -/
def txnBoundsSpec : ChangeSpec := { name := "txnBounds", fn := fun _ => fun
  | [d] => { results := [.lit (.bool true)], args := [d] }
  | _ => none }
def txnBoundsRow : OpenClaim := { program := "ytnaiaacgcjikiaa", sum := "91a5c8414116903f1a2378def7180adabfacaa4db42ba3ca38fcf5803331fad3", func := "assart/assartlaw21.TxnBounds", spec := "txnBounds", unfollowed := true, recurses := true, plainKeys := false, apart := false }
def TxnBoundsSaid : Prop := txnBoundsRow.holds Try.pinned (OpenSpec.ofChange txnBoundsSpec)

/-- ITS FALSE NEIGHBOUR: 'it returns false'. Refute it at one input. -/
def txnBoundsWrong : ChangeSpec := { name := "txnBounds", fn := fun _ => fun
  | [d] => { results := [.lit (.bool false)], args := [d] }
  | _ => none }
def TxnBoundsWrongFalsely : Prop := txnBoundsRow.holds Try.pinned (OpenSpec.ofChange txnBoundsWrong)

/-- 'assartlaw21.TxnForgets': WHATEVER THE INPUT: true; the input reads as it did. -/
def txnForgetsSpec : ChangeSpec := { name := "txnForgets", fn := fun _ => fun
  | [d1, d2] => { results := [.lit (.bool true)], args := [d1, d2] }
  | _ => none }
def txnForgetsRow : OpenClaim := { program := "ytnaiaacgcjikiaa", sum := "91a5c8414116903f1a2378def7180adabfacaa4db42ba3ca38fcf5803331fad3", func := "assart/assartlaw21.TxnForgets", spec := "txnForgets", unfollowed := true, recurses := true, plainKeys := false, apart := false }
def TxnForgetsSaid : Prop := txnForgetsRow.holds Try.pinned (OpenSpec.ofChange txnForgetsSpec)

/-- ITS FALSE NEIGHBOUR: 'it returns false'. Refute it at one input. -/
def txnForgetsWrong : ChangeSpec := { name := "txnForgets", fn := fun _ => fun
  | [d1, d2] => { results := [.lit (.bool false)], args := [d1, d2] }
  | _ => none }
def TxnForgetsWrongFalsely : Prop := txnForgetsRow.holds Try.pinned (OpenSpec.ofChange txnForgetsWrong)

/- THE SECOND FORM. 'bulk': how many values and letters a reading holds, each counted each time it is reached (what is shared counts as often as it is met; a slice's spare places count too). A statement '..UptoSaid' is the law's where the arguments, and the package variables that the reading takes, are together of bulk at most 1048576: NARROWER than '..Said'. Prove '..Said' where nothing that the law and all that it calls make is longer than what came in: it says more and counts as full. Else prove '..UptoSaid'. A law counts once. -/
mutual
def uptoBulk {H : Type} : DataW H → Nat
  | .lit (.string bytes) => bytes.length + 1
  | .lit _ => 1
  | .nil => 1
  | .ptr d => uptoBulk d + 1
  | .slice elems spare => uptoBulkAll elems + uptoBulkAll spare + 1
  | .agg parts => uptoBulkAll parts + 1
  | .iface _ d => uptoBulk d + 1
  | .map entries => uptoBulkEntries entries + 1
  | .held _ => 1
def uptoBulkAll {H : Type} : List (DataW H) → Nat
  | [] => 0
  | d :: r => uptoBulk d + uptoBulkAll r
def uptoBulkEntries {H : Type} : List (Lit × DataW H) → Nat
  | [] => 0
  | x :: r => uptoBulkEntry x + uptoBulkEntries r
def uptoBulkEntry {H : Type} : Lit × DataW H → Nat
  | (.string bytes, d) => bytes.length + uptoBulk d + 1
  | (_, d) => uptoBulk d + 1
 end
def uptoSmall : (H : Type) → List (DataW H) → Bool := fun _ ds => decide (uptoBulkAll ds ≤ 1048576)
def OpenSpec.upto (s : _root_.Go.ChangeSpec) : _root_.Go.OpenSpec := { _root_.Go.OpenSpec.ofChange s with cond := some uptoSmall }

/-- 'assartlaw21.TxnFirst', WHERE WHAT IT READS IS OF BULK AT MOST 1048576: true; the input reads as it did. -/
def txnFirstUptoRow : OpenClaim := { program := "ytnaiaacgcjikiaa", sum := "91a5c8414116903f1a2378def7180adabfacaa4db42ba3ca38fcf5803331fad3", func := "assart/assartlaw21.TxnFirst", spec := "txnFirst", unfollowed := true, recurses := true, plainKeys := false, apart := false, narrowed := true }
def TxnFirstUptoSaid : Prop := txnFirstUptoRow.holds Try.pinned (OpenSpec.upto txnFirstSpec)

/-- 'assartlaw21.TxnBounds', WHERE WHAT IT READS IS OF BULK AT MOST 1048576: true; the input reads as it did. -/
def txnBoundsUptoRow : OpenClaim := { program := "ytnaiaacgcjikiaa", sum := "91a5c8414116903f1a2378def7180adabfacaa4db42ba3ca38fcf5803331fad3", func := "assart/assartlaw21.TxnBounds", spec := "txnBounds", unfollowed := true, recurses := true, plainKeys := false, apart := false, narrowed := true }
def TxnBoundsUptoSaid : Prop := txnBoundsUptoRow.holds Try.pinned (OpenSpec.upto txnBoundsSpec)

/-- 'assartlaw21.TxnForgets', WHERE WHAT IT READS IS OF BULK AT MOST 1048576: true; the input reads as it did. -/
def txnForgetsUptoRow : OpenClaim := { program := "ytnaiaacgcjikiaa", sum := "91a5c8414116903f1a2378def7180adabfacaa4db42ba3ca38fcf5803331fad3", func := "assart/assartlaw21.TxnForgets", spec := "txnForgets", unfollowed := true, recurses := true, plainKeys := false, apart := false, narrowed := true }
def TxnForgetsUptoSaid : Prop := txnForgetsUptoRow.holds Try.pinned (OpenSpec.upto txnForgetsSpec)

end Rows
end Go.Proofs.Ytnaiaacgcjikiaa
