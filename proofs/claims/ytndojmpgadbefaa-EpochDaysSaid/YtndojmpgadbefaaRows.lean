/-
  No cell of these rows narrows 'for every input' (looked for: loops, veiled, ifaces, maps, wideKeys, modest, calm, conditions, laid).
  DERIVED. THE GIVEN ROWS OF THIS SEAT. 5 by the template 'for every input the law returns true; each argument reads behind the call as it read before'; 0 by the template 'total and deterministic' (their statements: YtndojmpgadbefaaTotals.lean).
  GIVEN WITH THE SEED: the statements are not yours to turn. If you find one false, say at which input.
  Laid BY PROGRAM, IN A SANDBOX (cutbox-rows.mjs): the forced cells as the released guide's own fill.sh prints them over the translation bdfd92d84c8681d4… (all of the seat's roots in one cut). By AI agents, Wed Nov 11 2026. No macro, syntax, notation, axiom, sorry.
-/
import Derived.Test.YtndojmpgadbefaaChecked
import GoSem.Claim
import GoSem.ClaimJoined
import GoSem.ClaimMapViews
import Derived.JoinedTies
import Derived.KernelRfl
namespace Go.Proofs.Ytndojmpgadbefaa
/- THE CELL 'sum', in the pinned program and in every row, IS THE sha256 OF THE DUMP (.gsa) THAT YtndojmpgadbefaaProg.lean LOADS. Nothing in Lean hashes anything: it is a label: what it is worth is what the hold of that sum in a sandbox is worth. -/
noncomputable def Try.pinned : Pinned := { name := "ytndojmpgadbefaa", sum := "bdfd92d84c8681d4948b626ff1880aa122c669d0470a1ec744d2af84542dfdf4", checked := Try.checked }
namespace Rows
def none {H : Type} : Left H := { results := [], args := [] }

/-- 'assartlaw12.EpochDays': WHATEVER THE INPUT: true; the input reads as it did. -/
def epochDaysSpec : ChangeSpec := { name := "epochDays", fn := fun _ => fun
  | [d1, d2] => { results := [.lit (.bool true)], args := [d1, d2] }
  | _ => none }
def epochDaysRow : OpenClaim := { program := "ytndojmpgadbefaa", sum := "bdfd92d84c8681d4948b626ff1880aa122c669d0470a1ec744d2af84542dfdf4", func := "assart/assartlaw12.EpochDays", spec := "epochDays", unfollowed := true, recurses := true, plainKeys := false, apart := false }
def EpochDaysSaid : Prop := epochDaysRow.holds Try.pinned (OpenSpec.ofChange epochDaysSpec)

/-- ITS FALSE NEIGHBOUR: 'it returns false'. Refute it at one input. -/
def epochDaysWrong : ChangeSpec := { name := "epochDays", fn := fun _ => fun
  | [d1, d2] => { results := [.lit (.bool false)], args := [d1, d2] }
  | _ => none }
def EpochDaysWrongFalsely : Prop := epochDaysRow.holds Try.pinned (OpenSpec.ofChange epochDaysWrong)

/-- 'assartlaw12.EpochKeeps': WHATEVER THE INPUT: true; the input reads as it did. -/
def epochKeepsSpec : ChangeSpec := { name := "epochKeeps", fn := fun _ => fun
  | [d] => { results := [.lit (.bool true)], args := [d] }
  | _ => none }
def epochKeepsRow : OpenClaim := { program := "ytndojmpgadbefaa", sum := "bdfd92d84c8681d4948b626ff1880aa122c669d0470a1ec744d2af84542dfdf4", func := "assart/assartlaw12.EpochKeeps", spec := "epochKeeps", unfollowed := true, recurses := true, plainKeys := false, apart := false }
def EpochKeepsSaid : Prop := epochKeepsRow.holds Try.pinned (OpenSpec.ofChange epochKeepsSpec)

/-- ITS FALSE NEIGHBOUR: 'it returns false'. Refute it at one input. -/
def epochKeepsWrong : ChangeSpec := { name := "epochKeeps", fn := fun _ => fun
  | [d] => { results := [.lit (.bool false)], args := [d] }
  | _ => none }
def EpochKeepsWrongFalsely : Prop := epochKeepsRow.holds Try.pinned (OpenSpec.ofChange epochKeepsWrong)

/-- 'assartlaw12.EpochBounds': WHATEVER THE INPUT: true; the input reads as it did. -/
def epochBoundsSpec : ChangeSpec := { name := "epochBounds", fn := fun _ => fun
  | [d] => { results := [.lit (.bool true)], args := [d] }
  | _ => none }
def epochBoundsRow : OpenClaim := { program := "ytndojmpgadbefaa", sum := "bdfd92d84c8681d4948b626ff1880aa122c669d0470a1ec744d2af84542dfdf4", func := "assart/assartlaw12.EpochBounds", spec := "epochBounds", unfollowed := true, recurses := true, plainKeys := false, apart := false }
def EpochBoundsSaid : Prop := epochBoundsRow.holds Try.pinned (OpenSpec.ofChange epochBoundsSpec)

/-- ITS FALSE NEIGHBOUR: 'it returns false'. Refute it at one input. -/
def epochBoundsWrong : ChangeSpec := { name := "epochBounds", fn := fun _ => fun
  | [d] => { results := [.lit (.bool false)], args := [d] }
  | _ => none }
def EpochBoundsWrongFalsely : Prop := epochBoundsRow.holds Try.pinned (OpenSpec.ofChange epochBoundsWrong)

/-- 'assartlaw12.EpochOldest': WHATEVER THE INPUT: true; the input reads as it did. -/
def epochOldestSpec : ChangeSpec := { name := "epochOldest", fn := fun _ => fun
  | [d] => { results := [.lit (.bool true)], args := [d] }
  | _ => none }
def epochOldestRow : OpenClaim := { program := "ytndojmpgadbefaa", sum := "bdfd92d84c8681d4948b626ff1880aa122c669d0470a1ec744d2af84542dfdf4", func := "assart/assartlaw12.EpochOldest", spec := "epochOldest", unfollowed := true, recurses := true, plainKeys := false, apart := false }
def EpochOldestSaid : Prop := epochOldestRow.holds Try.pinned (OpenSpec.ofChange epochOldestSpec)

/-- ITS FALSE NEIGHBOUR: 'it returns false'. Refute it at one input. -/
def epochOldestWrong : ChangeSpec := { name := "epochOldest", fn := fun _ => fun
  | [d] => { results := [.lit (.bool false)], args := [d] }
  | _ => none }
def EpochOldestWrongFalsely : Prop := epochOldestRow.holds Try.pinned (OpenSpec.ofChange epochOldestWrong)

/-- 'assartlaw12.EpochFrees': WHATEVER THE INPUT: true; the input reads as it did. -/
def epochFreesSpec : ChangeSpec := { name := "epochFrees", fn := fun _ => fun
  | [d] => { results := [.lit (.bool true)], args := [d] }
  | _ => none }
def epochFreesRow : OpenClaim := { program := "ytndojmpgadbefaa", sum := "bdfd92d84c8681d4948b626ff1880aa122c669d0470a1ec744d2af84542dfdf4", func := "assart/assartlaw12.EpochFrees", spec := "epochFrees", unfollowed := true, recurses := true, plainKeys := false, apart := false }
def EpochFreesSaid : Prop := epochFreesRow.holds Try.pinned (OpenSpec.ofChange epochFreesSpec)

/-- ITS FALSE NEIGHBOUR: 'it returns false'. Refute it at one input. -/
def epochFreesWrong : ChangeSpec := { name := "epochFrees", fn := fun _ => fun
  | [d] => { results := [.lit (.bool false)], args := [d] }
  | _ => none }
def EpochFreesWrongFalsely : Prop := epochFreesRow.holds Try.pinned (OpenSpec.ofChange epochFreesWrong)

/- THE SECOND FORM. 'bulk': how many values and letters a reading holds, each counted each time it is reached (what is shared counts as often as it is met; a slice's spare places count too). A statement '..UptoSaid' is the law's where the arguments, and the package variables that the reading takes, are together of bulk at most 1048576: NARROWER than '..Said'. Prove '..Said' where nothing that the law and all that it calls make is longer than what came in: it says more and counts as full. Else prove '..UptoSaid'. A law counts once. -/
mutual
def uptoBulk {H : Type} : DataW H → Nat
  | .lit (.string bytes) => bytes.length + 1
  | .lit _ => 1
  | .nil => 1
  | .ptr d => uptoBulk d + 1
  | .slice elems spare => uptoBulkAll elems + uptoBulkAll spare + 1
  | .agg parts => uptoBulkAll parts + 1
  | .iface _ d => uptoBulk d + 1
  | .map entries => uptoBulkEntries entries + 1
  | .held _ => 1
def uptoBulkAll {H : Type} : List (DataW H) → Nat
  | [] => 0
  | d :: r => uptoBulk d + uptoBulkAll r
def uptoBulkEntries {H : Type} : List (Lit × DataW H) → Nat
  | [] => 0
  | x :: r => uptoBulkEntry x + uptoBulkEntries r
def uptoBulkEntry {H : Type} : Lit × DataW H → Nat
  | (.string bytes, d) => bytes.length + uptoBulk d + 1
  | (_, d) => uptoBulk d + 1
 end
def uptoSmall : (H : Type) → List (DataW H) → Bool := fun _ ds => decide (uptoBulkAll ds ≤ 1048576)
def OpenSpec.upto (s : _root_.Go.ChangeSpec) : _root_.Go.OpenSpec := { _root_.Go.OpenSpec.ofChange s with cond := some uptoSmall }

/-- 'assartlaw12.EpochDays', WHERE WHAT IT READS IS OF BULK AT MOST 1048576: true; the input reads as it did. -/
def epochDaysUptoRow : OpenClaim := { program := "ytndojmpgadbefaa", sum := "bdfd92d84c8681d4948b626ff1880aa122c669d0470a1ec744d2af84542dfdf4", func := "assart/assartlaw12.EpochDays", spec := "epochDays", unfollowed := true, recurses := true, plainKeys := false, apart := false, narrowed := true }
def EpochDaysUptoSaid : Prop := epochDaysUptoRow.holds Try.pinned (OpenSpec.upto epochDaysSpec)

/-- 'assartlaw12.EpochKeeps', WHERE WHAT IT READS IS OF BULK AT MOST 1048576: true; the input reads as it did. -/
def epochKeepsUptoRow : OpenClaim := { program := "ytndojmpgadbefaa", sum := "bdfd92d84c8681d4948b626ff1880aa122c669d0470a1ec744d2af84542dfdf4", func := "assart/assartlaw12.EpochKeeps", spec := "epochKeeps", unfollowed := true, recurses := true, plainKeys := false, apart := false, narrowed := true }
def EpochKeepsUptoSaid : Prop := epochKeepsUptoRow.holds Try.pinned (OpenSpec.upto epochKeepsSpec)

/-- 'assartlaw12.EpochBounds', WHERE WHAT IT READS IS OF BULK AT MOST 1048576: true; the input reads as it did. -/
def epochBoundsUptoRow : OpenClaim := { program := "ytndojmpgadbefaa", sum := "bdfd92d84c8681d4948b626ff1880aa122c669d0470a1ec744d2af84542dfdf4", func := "assart/assartlaw12.EpochBounds", spec := "epochBounds", unfollowed := true, recurses := true, plainKeys := false, apart := false, narrowed := true }
def EpochBoundsUptoSaid : Prop := epochBoundsUptoRow.holds Try.pinned (OpenSpec.upto epochBoundsSpec)

/-- 'assartlaw12.EpochOldest', WHERE WHAT IT READS IS OF BULK AT MOST 1048576: true; the input reads as it did. -/
def epochOldestUptoRow : OpenClaim := { program := "ytndojmpgadbefaa", sum := "bdfd92d84c8681d4948b626ff1880aa122c669d0470a1ec744d2af84542dfdf4", func := "assart/assartlaw12.EpochOldest", spec := "epochOldest", unfollowed := true, recurses := true, plainKeys := false, apart := false, narrowed := true }
def EpochOldestUptoSaid : Prop := epochOldestUptoRow.holds Try.pinned (OpenSpec.upto epochOldestSpec)

/-- 'assartlaw12.EpochFrees', WHERE WHAT IT READS IS OF BULK AT MOST 1048576: true; the input reads as it did. -/
def epochFreesUptoRow : OpenClaim := { program := "ytndojmpgadbefaa", sum := "bdfd92d84c8681d4948b626ff1880aa122c669d0470a1ec744d2af84542dfdf4", func := "assart/assartlaw12.EpochFrees", spec := "epochFrees", unfollowed := true, recurses := true, plainKeys := false, apart := false, narrowed := true }
def EpochFreesUptoSaid : Prop := epochFreesUptoRow.holds Try.pinned (OpenSpec.upto epochFreesSpec)

end Rows
end Go.Proofs.Ytndojmpgadbefaa
