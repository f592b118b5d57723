/-
  No cell of these rows narrows 'for every input' (looked for: loops, veiled, ifaces, maps, wideKeys, modest, calm, conditions, laid).
  DERIVED. THE GIVEN ROWS OF THIS SEAT. 7 by the template 'for every input the law returns true; each argument reads behind the call as it read before'; 0 by the template 'total and deterministic' (their statements: YtpemfmlonamikaaTotals.lean).
  GIVEN WITH THE SEED: the statements are not yours to turn. If you find one false, say at which input.
  Laid BY PROGRAM, IN A SANDBOX (cutbox-rows.mjs): the forced cells as the released guide's own fill.sh prints them over the translation f7c6836d02d33af5… (all of the seat's roots in one cut). By AI agents, Wed Nov 11 2026. No macro, syntax, notation, axiom, sorry.
-/
import Derived.Test.YtpemfmlonamikaaChecked
import GoSem.Claim
import GoSem.ClaimJoined
import GoSem.ClaimMapViews
import Derived.JoinedTies
import Derived.KernelRfl
namespace Go.Proofs.Ytpemfmlonamikaa
/- THE CELL 'sum', in the pinned program and in every row, IS THE sha256 OF THE DUMP (.gsa) THAT YtpemfmlonamikaaProg.lean LOADS. Nothing in Lean hashes anything: it is a label: what it is worth is what the hold of that sum in a sandbox is worth. -/
noncomputable def Try.pinned : Pinned := { name := "ytpemfmlonamikaa", sum := "f7c6836d02d33af50aea782e1038d03a067a25c00ed58269f07973cdeeecdba8", checked := Try.checked }
namespace Rows
def none {H : Type} : Left H := { results := [], args := [] }

/-- 'assartlaw16.KeepShows': WHATEVER THE INPUT: true; the input reads as it did. -/
def keepShowsSpec : ChangeSpec := { name := "keepShows", fn := fun _ => fun
  | [d1, d2, d3] => { results := [.lit (.bool true)], args := [d1, d2, d3] }
  | _ => none }
def keepShowsRow : OpenClaim := { program := "ytpemfmlonamikaa", sum := "f7c6836d02d33af50aea782e1038d03a067a25c00ed58269f07973cdeeecdba8", func := "assart/assartlaw16.KeepShows", spec := "keepShows", inPlace := ["internal/bytealg.abigen_runtime_cmpstring"], recurses := true, apart := false }
def KeepShowsSaid : Prop := keepShowsRow.holds Try.pinned (OpenSpec.ofChange keepShowsSpec)

/-- ITS FALSE NEIGHBOUR: 'it returns false'. Refute it at one input. -/
def keepShowsWrong : ChangeSpec := { name := "keepShows", fn := fun _ => fun
  | [d1, d2, d3] => { results := [.lit (.bool false)], args := [d1, d2, d3] }
  | _ => none }
def KeepShowsWrongFalsely : Prop := keepShowsRow.holds Try.pinned (OpenSpec.ofChange keepShowsWrong)

/-- 'assartlaw16.KeepCovers': WHATEVER THE INPUT: true; the input reads as it did. -/
def keepCoversSpec : ChangeSpec := { name := "keepCovers", fn := fun _ => fun
  | [d1, d2, d3] => { results := [.lit (.bool true)], args := [d1, d2, d3] }
  | _ => none }
def keepCoversRow : OpenClaim := { program := "ytpemfmlonamikaa", sum := "f7c6836d02d33af50aea782e1038d03a067a25c00ed58269f07973cdeeecdba8", func := "assart/assartlaw16.KeepCovers", spec := "keepCovers", inPlace := ["internal/bytealg.abigen_runtime_cmpstring"], recurses := true, apart := false }
def KeepCoversSaid : Prop := keepCoversRow.holds Try.pinned (OpenSpec.ofChange keepCoversSpec)

/-- ITS FALSE NEIGHBOUR: 'it returns false'. Refute it at one input. -/
def keepCoversWrong : ChangeSpec := { name := "keepCovers", fn := fun _ => fun
  | [d1, d2, d3] => { results := [.lit (.bool false)], args := [d1, d2, d3] }
  | _ => none }
def KeepCoversWrongFalsely : Prop := keepCoversRow.holds Try.pinned (OpenSpec.ofChange keepCoversWrong)

/-- 'assartlaw16.KeepAgain': WHATEVER THE INPUT: true; the input reads as it did. -/
def keepAgainSpec : ChangeSpec := { name := "keepAgain", fn := fun _ => fun
  | [d] => { results := [.lit (.bool true)], args := [d] }
  | _ => none }
def keepAgainRow : OpenClaim := { program := "ytpemfmlonamikaa", sum := "f7c6836d02d33af50aea782e1038d03a067a25c00ed58269f07973cdeeecdba8", func := "assart/assartlaw16.KeepAgain", spec := "keepAgain", inPlace := ["internal/bytealg.abigen_runtime_cmpstring"], recurses := true, apart := false }
def KeepAgainSaid : Prop := keepAgainRow.holds Try.pinned (OpenSpec.ofChange keepAgainSpec)

/-- ITS FALSE NEIGHBOUR: 'it returns false'. Refute it at one input. -/
def keepAgainWrong : ChangeSpec := { name := "keepAgain", fn := fun _ => fun
  | [d] => { results := [.lit (.bool false)], args := [d] }
  | _ => none }
def KeepAgainWrongFalsely : Prop := keepAgainRow.holds Try.pinned (OpenSpec.ofChange keepAgainWrong)

/-- 'assartlaw16.KeepLooks': WHATEVER THE INPUT: true; the input reads as it did. -/
def keepLooksSpec : ChangeSpec := { name := "keepLooks", fn := fun _ => fun
  | [d1, d2, d3] => { results := [.lit (.bool true)], args := [d1, d2, d3] }
  | _ => none }
def keepLooksRow : OpenClaim := { program := "ytpemfmlonamikaa", sum := "f7c6836d02d33af50aea782e1038d03a067a25c00ed58269f07973cdeeecdba8", func := "assart/assartlaw16.KeepLooks", spec := "keepLooks", inPlace := ["internal/bytealg.abigen_runtime_cmpstring"], recurses := true, apart := false }
def KeepLooksSaid : Prop := keepLooksRow.holds Try.pinned (OpenSpec.ofChange keepLooksSpec)

/-- ITS FALSE NEIGHBOUR: 'it returns false'. Refute it at one input. -/
def keepLooksWrong : ChangeSpec := { name := "keepLooks", fn := fun _ => fun
  | [d1, d2, d3] => { results := [.lit (.bool false)], args := [d1, d2, d3] }
  | _ => none }
def KeepLooksWrongFalsely : Prop := keepLooksRow.holds Try.pinned (OpenSpec.ofChange keepLooksWrong)

/-- 'assartlaw16.KeepCuts': WHATEVER THE INPUT: true; the input reads as it did. -/
def keepCutsSpec : ChangeSpec := { name := "keepCuts", fn := fun _ => fun
  | [d1, d2] => { results := [.lit (.bool true)], args := [d1, d2] }
  | _ => none }
def keepCutsRow : OpenClaim := { program := "ytpemfmlonamikaa", sum := "f7c6836d02d33af50aea782e1038d03a067a25c00ed58269f07973cdeeecdba8", func := "assart/assartlaw16.KeepCuts", spec := "keepCuts", inPlace := ["internal/bytealg.abigen_runtime_cmpstring"], recurses := true, apart := false }
def KeepCutsSaid : Prop := keepCutsRow.holds Try.pinned (OpenSpec.ofChange keepCutsSpec)

/-- ITS FALSE NEIGHBOUR: 'it returns false'. Refute it at one input. -/
def keepCutsWrong : ChangeSpec := { name := "keepCuts", fn := fun _ => fun
  | [d1, d2] => { results := [.lit (.bool false)], args := [d1, d2] }
  | _ => none }
def KeepCutsWrongFalsely : Prop := keepCutsRow.holds Try.pinned (OpenSpec.ofChange keepCutsWrong)

/-- 'assartlaw16.KeepKeeps': WHATEVER THE INPUT: true; the input reads as it did. -/
def keepKeepsSpec : ChangeSpec := { name := "keepKeeps", fn := fun _ => fun
  | [d1, d2] => { results := [.lit (.bool true)], args := [d1, d2] }
  | _ => none }
def keepKeepsRow : OpenClaim := { program := "ytpemfmlonamikaa", sum := "f7c6836d02d33af50aea782e1038d03a067a25c00ed58269f07973cdeeecdba8", func := "assart/assartlaw16.KeepKeeps", spec := "keepKeeps", inPlace := ["internal/bytealg.abigen_runtime_cmpstring"], recurses := true, apart := false }
def KeepKeepsSaid : Prop := keepKeepsRow.holds Try.pinned (OpenSpec.ofChange keepKeepsSpec)

/-- ITS FALSE NEIGHBOUR: 'it returns false'. Refute it at one input. -/
def keepKeepsWrong : ChangeSpec := { name := "keepKeeps", fn := fun _ => fun
  | [d1, d2] => { results := [.lit (.bool false)], args := [d1, d2] }
  | _ => none }
def KeepKeepsWrongFalsely : Prop := keepKeepsRow.holds Try.pinned (OpenSpec.ofChange keepKeepsWrong)

/-- 'assartlaw16.KeepTells': WHATEVER THE INPUT: true; the input reads as it did. -/
def keepTellsSpec : ChangeSpec := { name := "keepTells", fn := fun _ => fun
  | [d1, d2, d3] => { results := [.lit (.bool true)], args := [d1, d2, d3] }
  | _ => none }
def keepTellsRow : OpenClaim := { program := "ytpemfmlonamikaa", sum := "f7c6836d02d33af50aea782e1038d03a067a25c00ed58269f07973cdeeecdba8", func := "assart/assartlaw16.KeepTells", spec := "keepTells", inPlace := ["internal/bytealg.abigen_runtime_cmpstring"], recurses := true, apart := false }
def KeepTellsSaid : Prop := keepTellsRow.holds Try.pinned (OpenSpec.ofChange keepTellsSpec)

/-- ITS FALSE NEIGHBOUR: 'it returns false'. Refute it at one input. -/
def keepTellsWrong : ChangeSpec := { name := "keepTells", fn := fun _ => fun
  | [d1, d2, d3] => { results := [.lit (.bool false)], args := [d1, d2, d3] }
  | _ => none }
def KeepTellsWrongFalsely : Prop := keepTellsRow.holds Try.pinned (OpenSpec.ofChange keepTellsWrong)

/- THE SECOND FORM. 'bulk': how many values and letters a reading holds, each counted each time it is reached (what is shared counts as often as it is met; a slice's spare places count too). A statement '..UptoSaid' is the law's where the arguments, and the package variables that the reading takes, are together of bulk at most 1048576: NARROWER than '..Said'. Prove '..Said' where nothing that the law and all that it calls make is longer than what came in: it says more and counts as full. Else prove '..UptoSaid'. A law counts once. -/
mutual
def uptoBulk {H : Type} : DataW H → Nat
  | .lit (.string bytes) => bytes.length + 1
  | .lit _ => 1
  | .nil => 1
  | .ptr d => uptoBulk d + 1
  | .slice elems spare => uptoBulkAll elems + uptoBulkAll spare + 1
  | .agg parts => uptoBulkAll parts + 1
  | .iface _ d => uptoBulk d + 1
  | .map entries => uptoBulkEntries entries + 1
  | .held _ => 1
def uptoBulkAll {H : Type} : List (DataW H) → Nat
  | [] => 0
  | d :: r => uptoBulk d + uptoBulkAll r
def uptoBulkEntries {H : Type} : List (Lit × DataW H) → Nat
  | [] => 0
  | x :: r => uptoBulkEntry x + uptoBulkEntries r
def uptoBulkEntry {H : Type} : Lit × DataW H → Nat
  | (.string bytes, d) => bytes.length + uptoBulk d + 1
  | (_, d) => uptoBulk d + 1
 end
def uptoSmall : (H : Type) → List (DataW H) → Bool := fun _ ds => decide (uptoBulkAll ds ≤ 1048576)
def OpenSpec.upto (s : _root_.Go.ChangeSpec) : _root_.Go.OpenSpec := { _root_.Go.OpenSpec.ofChange s with cond := some uptoSmall }

/-- 'assartlaw16.KeepShows', WHERE WHAT IT READS IS OF BULK AT MOST 1048576: true; the input reads as it did. -/
def keepShowsUptoRow : OpenClaim := { program := "ytpemfmlonamikaa", sum := "f7c6836d02d33af50aea782e1038d03a067a25c00ed58269f07973cdeeecdba8", func := "assart/assartlaw16.KeepShows", spec := "keepShows", inPlace := ["internal/bytealg.abigen_runtime_cmpstring"], recurses := true, apart := false, narrowed := true }
def KeepShowsUptoSaid : Prop := keepShowsUptoRow.holds Try.pinned (OpenSpec.upto keepShowsSpec)

/-- 'assartlaw16.KeepCovers', WHERE WHAT IT READS IS OF BULK AT MOST 1048576: true; the input reads as it did. -/
def keepCoversUptoRow : OpenClaim := { program := "ytpemfmlonamikaa", sum := "f7c6836d02d33af50aea782e1038d03a067a25c00ed58269f07973cdeeecdba8", func := "assart/assartlaw16.KeepCovers", spec := "keepCovers", inPlace := ["internal/bytealg.abigen_runtime_cmpstring"], recurses := true, apart := false, narrowed := true }
def KeepCoversUptoSaid : Prop := keepCoversUptoRow.holds Try.pinned (OpenSpec.upto keepCoversSpec)

/-- 'assartlaw16.KeepAgain', WHERE WHAT IT READS IS OF BULK AT MOST 1048576: true; the input reads as it did. -/
def keepAgainUptoRow : OpenClaim := { program := "ytpemfmlonamikaa", sum := "f7c6836d02d33af50aea782e1038d03a067a25c00ed58269f07973cdeeecdba8", func := "assart/assartlaw16.KeepAgain", spec := "keepAgain", inPlace := ["internal/bytealg.abigen_runtime_cmpstring"], recurses := true, apart := false, narrowed := true }
def KeepAgainUptoSaid : Prop := keepAgainUptoRow.holds Try.pinned (OpenSpec.upto keepAgainSpec)

/-- 'assartlaw16.KeepLooks', WHERE WHAT IT READS IS OF BULK AT MOST 1048576: true; the input reads as it did. -/
def keepLooksUptoRow : OpenClaim := { program := "ytpemfmlonamikaa", sum := "f7c6836d02d33af50aea782e1038d03a067a25c00ed58269f07973cdeeecdba8", func := "assart/assartlaw16.KeepLooks", spec := "keepLooks", inPlace := ["internal/bytealg.abigen_runtime_cmpstring"], recurses := true, apart := false, narrowed := true }
def KeepLooksUptoSaid : Prop := keepLooksUptoRow.holds Try.pinned (OpenSpec.upto keepLooksSpec)

/-- 'assartlaw16.KeepCuts', WHERE WHAT IT READS IS OF BULK AT MOST 1048576: true; the input reads as it did. -/
def keepCutsUptoRow : OpenClaim := { program := "ytpemfmlonamikaa", sum := "f7c6836d02d33af50aea782e1038d03a067a25c00ed58269f07973cdeeecdba8", func := "assart/assartlaw16.KeepCuts", spec := "keepCuts", inPlace := ["internal/bytealg.abigen_runtime_cmpstring"], recurses := true, apart := false, narrowed := true }
def KeepCutsUptoSaid : Prop := keepCutsUptoRow.holds Try.pinned (OpenSpec.upto keepCutsSpec)

/-- 'assartlaw16.KeepKeeps', WHERE WHAT IT READS IS OF BULK AT MOST 1048576: true; the input reads as it did. -/
def keepKeepsUptoRow : OpenClaim := { program := "ytpemfmlonamikaa", sum := "f7c6836d02d33af50aea782e1038d03a067a25c00ed58269f07973cdeeecdba8", func := "assart/assartlaw16.KeepKeeps", spec := "keepKeeps", inPlace := ["internal/bytealg.abigen_runtime_cmpstring"], recurses := true, apart := false, narrowed := true }
def KeepKeepsUptoSaid : Prop := keepKeepsUptoRow.holds Try.pinned (OpenSpec.upto keepKeepsSpec)

/-- 'assartlaw16.KeepTells', WHERE WHAT IT READS IS OF BULK AT MOST 1048576: true; the input reads as it did. -/
def keepTellsUptoRow : OpenClaim := { program := "ytpemfmlonamikaa", sum := "f7c6836d02d33af50aea782e1038d03a067a25c00ed58269f07973cdeeecdba8", func := "assart/assartlaw16.KeepTells", spec := "keepTells", inPlace := ["internal/bytealg.abigen_runtime_cmpstring"], recurses := true, apart := false, narrowed := true }
def KeepTellsUptoSaid : Prop := keepTellsUptoRow.holds Try.pinned (OpenSpec.upto keepTellsSpec)

end Rows
end Go.Proofs.Ytpemfmlonamikaa
