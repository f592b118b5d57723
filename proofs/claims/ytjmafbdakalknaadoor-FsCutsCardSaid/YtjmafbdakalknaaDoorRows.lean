/-
  NARROWER THAN 'FOR EVERY INPUT', by the rows' own cells (each row's printed sentence says how): FsCuts: laid · FsArms: laid · FsRoom: laid · FsChains: laid · FsKeeps: laid · FsRenames: laid · FsDeeds: laid.
  DERIVED. THE GIVEN ROWS OF THIS SEAT. 7 by the template 'for every input the law returns true; each argument reads behind the call as it read before'; 0 by the template 'total and deterministic' (their statements: YtjmafbdakalknaaDoorTotals.lean).
  GIVEN WITH THE SEED: the statements are not yours to turn. If you find one false, say at which input.
  Laid BY PROGRAM, IN A SANDBOX (cutbox-rows.mjs): the forced cells as the released guide's own fill.sh prints them over the translation 54524c29c842a304… (all of the seat's roots in one cut). By AI agents, Wed Nov 11 2026. No macro, syntax, notation, axiom, sorry.
-/
import Derived.Test.YtjmafbdakalknaaDoorChecked
import GoSem.PinnedTables
import GoSem.Claim
import GoSem.ClaimJoined
import GoSem.ClaimMapViews
import Derived.JoinedTies
import Derived.KernelRfl
namespace Go.Proofs.YtjmafbdakalknaaDoor
/- THE CELL 'sum', in the pinned program and in every row, IS THE sha256 OF THE DUMP (.gsa) THAT YtjmafbdakalknaaDoorProg.lean LOADS. Nothing in Lean hashes anything: it is a label: what it is worth is what the hold of that sum in a sandbox is worth. -/
noncomputable def Tryd.pinned : Pinned := { name := "ytjmafbdakalknaadoor", sum := "54524c29c842a304a46554a63dac12870d2d4e3be9de904d863022bb63ee7538", checked := Tryd.checked }
namespace Rows
def none {H : Type} : Left H := { results := [], args := [] }

/- WHAT THE LISTED PACKAGE-LEVEL VARIABLES READ AS WHEN THE CALL BEGINS. Each datum BY PROGRAM (the guide's laid-datum.mjs) off the statement by which the dump's own 'gosem.cut.vars' lays the variable. In a bare row this is a premise. The card (YtjmafbdakalknaaDoorCards.lean) ties it to the program's text. -/
def laid_unicode_utf8_acceptRanges {H : Type} : DataW H := .agg [.agg [.lit (.int .u8 128), .lit (.int .u8 191)], .agg [.lit (.int .u8 160), .lit (.int .u8 191)], .agg [.lit (.int .u8 128), .lit (.int .u8 159)], .agg [.lit (.int .u8 144), .lit (.int .u8 191)], .agg [.lit (.int .u8 128), .lit (.int .u8 143)], .agg [.lit (.int .u8 0), .lit (.int .u8 0)], .agg [.lit (.int .u8 0), .lit (.int .u8 0)], .agg [.lit (.int .u8 0), .lit (.int .u8 0)], .agg [.lit (.int .u8 0), .lit (.int .u8 0)], .agg [.lit (.int .u8 0), .lit (.int .u8 0)], .agg [.lit (.int .u8 0), .lit (.int .u8 0)], .agg [.lit (.int .u8 0), .lit (.int .u8 0)], .agg [.lit (.int .u8 0), .lit (.int .u8 0)], .agg [.lit (.int .u8 0), .lit (.int .u8 0)], .agg [.lit (.int .u8 0), .lit (.int .u8 0)], .agg [.lit (.int .u8 0), .lit (.int .u8 0)]]
/-- One of Go's own tables, pinned by name: the form's constant. -/
def laid_unicode_utf8_first : DataW Unit := Go.Pinned.utf8First

/-- 'assartlaw07.FsCuts': WHATEVER THE INPUT: true; the input reads as it did. -/
def fsCutsSpec : ChangeSpec := { name := "fsCuts", fn := fun _ => fun
  | [d1, d2, d3] => { results := [.lit (.bool true)], args := [d1, d2, d3] }
  | _ => none }
def fsCutsRow : OpenClaim := { program := "ytjmafbdakalknaadoor", sum := "54524c29c842a304a46554a63dac12870d2d4e3be9de904d863022bb63ee7538", func := "assart/assartlaw07.FsCuts", spec := "fsCuts", inPlace := ["internal/bytealg.IndexByteString", "internal/bytealg.IndexString", "maps.clone"], unfollowed := true, recurses := true, named := ["unicode/utf8.first", "unicode/utf8.acceptRanges", "internal/bytealg.MaxLen"], apart := false, laid := [("unicode/utf8.acceptRanges", laid_unicode_utf8_acceptRanges), ("unicode/utf8.first", laid_unicode_utf8_first)] }
def FsCutsSaid : Prop := fsCutsRow.holds Tryd.pinned (OpenSpec.ofChange fsCutsSpec)

/-- ITS FALSE NEIGHBOUR: 'it returns false'. Refute it at one input. -/
def fsCutsWrong : ChangeSpec := { name := "fsCuts", fn := fun _ => fun
  | [d1, d2, d3] => { results := [.lit (.bool false)], args := [d1, d2, d3] }
  | _ => none }
def FsCutsWrongFalsely : Prop := fsCutsRow.holds Tryd.pinned (OpenSpec.ofChange fsCutsWrong)

/-- 'assartlaw07.FsArms': WHATEVER THE INPUT: true; the input reads as it did. -/
def fsArmsSpec : ChangeSpec := { name := "fsArms", fn := fun _ => fun
  | [d1, d2] => { results := [.lit (.bool true)], args := [d1, d2] }
  | _ => none }
def fsArmsRow : OpenClaim := { program := "ytjmafbdakalknaadoor", sum := "54524c29c842a304a46554a63dac12870d2d4e3be9de904d863022bb63ee7538", func := "assart/assartlaw07.FsArms", spec := "fsArms", inPlace := ["internal/bytealg.IndexByteString", "internal/bytealg.IndexString", "maps.clone"], unfollowed := true, recurses := true, named := ["unicode/utf8.first", "unicode/utf8.acceptRanges", "internal/bytealg.MaxLen"], apart := false, laid := [("unicode/utf8.acceptRanges", laid_unicode_utf8_acceptRanges), ("unicode/utf8.first", laid_unicode_utf8_first)] }
def FsArmsSaid : Prop := fsArmsRow.holds Tryd.pinned (OpenSpec.ofChange fsArmsSpec)

/-- ITS FALSE NEIGHBOUR: 'it returns false'. Refute it at one input. -/
def fsArmsWrong : ChangeSpec := { name := "fsArms", fn := fun _ => fun
  | [d1, d2] => { results := [.lit (.bool false)], args := [d1, d2] }
  | _ => none }
def FsArmsWrongFalsely : Prop := fsArmsRow.holds Tryd.pinned (OpenSpec.ofChange fsArmsWrong)

/-- 'assartlaw07.FsRoom': WHATEVER THE INPUT: true; the input reads as it did. -/
def fsRoomSpec : ChangeSpec := { name := "fsRoom", fn := fun _ => fun
  | [d1, d2] => { results := [.lit (.bool true)], args := [d1, d2] }
  | _ => none }
def fsRoomRow : OpenClaim := { program := "ytjmafbdakalknaadoor", sum := "54524c29c842a304a46554a63dac12870d2d4e3be9de904d863022bb63ee7538", func := "assart/assartlaw07.FsRoom", spec := "fsRoom", inPlace := ["internal/bytealg.IndexByteString", "internal/bytealg.IndexString", "maps.clone"], unfollowed := true, recurses := true, named := ["unicode/utf8.first", "unicode/utf8.acceptRanges", "internal/bytealg.MaxLen"], apart := false, laid := [("unicode/utf8.acceptRanges", laid_unicode_utf8_acceptRanges), ("unicode/utf8.first", laid_unicode_utf8_first)] }
def FsRoomSaid : Prop := fsRoomRow.holds Tryd.pinned (OpenSpec.ofChange fsRoomSpec)

/-- ITS FALSE NEIGHBOUR: 'it returns false'. Refute it at one input. -/
def fsRoomWrong : ChangeSpec := { name := "fsRoom", fn := fun _ => fun
  | [d1, d2] => { results := [.lit (.bool false)], args := [d1, d2] }
  | _ => none }
def FsRoomWrongFalsely : Prop := fsRoomRow.holds Tryd.pinned (OpenSpec.ofChange fsRoomWrong)

/-- 'assartlaw07.FsChains': WHATEVER THE INPUT: true; the input reads as it did. -/
def fsChainsSpec : ChangeSpec := { name := "fsChains", fn := fun _ => fun
  | [d1, d2] => { results := [.lit (.bool true)], args := [d1, d2] }
  | _ => none }
def fsChainsRow : OpenClaim := { program := "ytjmafbdakalknaadoor", sum := "54524c29c842a304a46554a63dac12870d2d4e3be9de904d863022bb63ee7538", func := "assart/assartlaw07.FsChains", spec := "fsChains", inPlace := ["internal/bytealg.IndexByteString", "internal/bytealg.IndexString", "maps.clone"], unfollowed := true, recurses := true, named := ["unicode/utf8.first", "unicode/utf8.acceptRanges", "internal/bytealg.MaxLen"], apart := false, laid := [("unicode/utf8.acceptRanges", laid_unicode_utf8_acceptRanges), ("unicode/utf8.first", laid_unicode_utf8_first)] }
def FsChainsSaid : Prop := fsChainsRow.holds Tryd.pinned (OpenSpec.ofChange fsChainsSpec)

/-- ITS FALSE NEIGHBOUR: 'it returns false'. Refute it at one input. -/
def fsChainsWrong : ChangeSpec := { name := "fsChains", fn := fun _ => fun
  | [d1, d2] => { results := [.lit (.bool false)], args := [d1, d2] }
  | _ => none }
def FsChainsWrongFalsely : Prop := fsChainsRow.holds Tryd.pinned (OpenSpec.ofChange fsChainsWrong)

/-- 'assartlaw07.FsKeeps': WHATEVER THE INPUT: true; the input reads as it did. -/
def fsKeepsSpec : ChangeSpec := { name := "fsKeeps", fn := fun _ => fun
  | [d1, d2] => { results := [.lit (.bool true)], args := [d1, d2] }
  | _ => none }
def fsKeepsRow : OpenClaim := { program := "ytjmafbdakalknaadoor", sum := "54524c29c842a304a46554a63dac12870d2d4e3be9de904d863022bb63ee7538", func := "assart/assartlaw07.FsKeeps", spec := "fsKeeps", inPlace := ["internal/bytealg.IndexByteString", "internal/bytealg.IndexString", "maps.clone"], unfollowed := true, recurses := true, named := ["unicode/utf8.first", "unicode/utf8.acceptRanges", "internal/bytealg.MaxLen"], apart := false, laid := [("unicode/utf8.acceptRanges", laid_unicode_utf8_acceptRanges), ("unicode/utf8.first", laid_unicode_utf8_first)] }
def FsKeepsSaid : Prop := fsKeepsRow.holds Tryd.pinned (OpenSpec.ofChange fsKeepsSpec)

/-- ITS FALSE NEIGHBOUR: 'it returns false'. Refute it at one input. -/
def fsKeepsWrong : ChangeSpec := { name := "fsKeeps", fn := fun _ => fun
  | [d1, d2] => { results := [.lit (.bool false)], args := [d1, d2] }
  | _ => none }
def FsKeepsWrongFalsely : Prop := fsKeepsRow.holds Tryd.pinned (OpenSpec.ofChange fsKeepsWrong)

/-- 'assartlaw07.FsRenames': WHATEVER THE INPUT: true; the input reads as it did. -/
def fsRenamesSpec : ChangeSpec := { name := "fsRenames", fn := fun _ => fun
  | [d] => { results := [.lit (.bool true)], args := [d] }
  | _ => none }
def fsRenamesRow : OpenClaim := { program := "ytjmafbdakalknaadoor", sum := "54524c29c842a304a46554a63dac12870d2d4e3be9de904d863022bb63ee7538", func := "assart/assartlaw07.FsRenames", spec := "fsRenames", inPlace := ["internal/bytealg.IndexByteString", "internal/bytealg.IndexString", "maps.clone"], unfollowed := true, recurses := true, named := ["unicode/utf8.first", "unicode/utf8.acceptRanges", "internal/bytealg.MaxLen"], apart := false, laid := [("unicode/utf8.acceptRanges", laid_unicode_utf8_acceptRanges), ("unicode/utf8.first", laid_unicode_utf8_first)] }
def FsRenamesSaid : Prop := fsRenamesRow.holds Tryd.pinned (OpenSpec.ofChange fsRenamesSpec)

/-- ITS FALSE NEIGHBOUR: 'it returns false'. Refute it at one input. -/
def fsRenamesWrong : ChangeSpec := { name := "fsRenames", fn := fun _ => fun
  | [d] => { results := [.lit (.bool false)], args := [d] }
  | _ => none }
def FsRenamesWrongFalsely : Prop := fsRenamesRow.holds Tryd.pinned (OpenSpec.ofChange fsRenamesWrong)

/-- 'assartlaw07.FsDeeds': WHATEVER THE INPUT: true; the input reads as it did. -/
def fsDeedsSpec : ChangeSpec := { name := "fsDeeds", fn := fun _ => fun
  | [d1, d2] => { results := [.lit (.bool true)], args := [d1, d2] }
  | _ => none }
def fsDeedsRow : OpenClaim := { program := "ytjmafbdakalknaadoor", sum := "54524c29c842a304a46554a63dac12870d2d4e3be9de904d863022bb63ee7538", func := "assart/assartlaw07.FsDeeds", spec := "fsDeeds", inPlace := ["maps.clone", "internal/bytealg.IndexByteString", "internal/bytealg.IndexString"], unfollowed := true, recurses := true, named := ["unicode/utf8.first", "unicode/utf8.acceptRanges", "internal/bytealg.MaxLen"], apart := false, laid := [("unicode/utf8.acceptRanges", laid_unicode_utf8_acceptRanges), ("unicode/utf8.first", laid_unicode_utf8_first)] }
def FsDeedsSaid : Prop := fsDeedsRow.holds Tryd.pinned (OpenSpec.ofChange fsDeedsSpec)

/-- ITS FALSE NEIGHBOUR: 'it returns false'. Refute it at one input. -/
def fsDeedsWrong : ChangeSpec := { name := "fsDeeds", fn := fun _ => fun
  | [d1, d2] => { results := [.lit (.bool false)], args := [d1, d2] }
  | _ => none }
def FsDeedsWrongFalsely : Prop := fsDeedsRow.holds Tryd.pinned (OpenSpec.ofChange fsDeedsWrong)

/- THE SECOND FORM. 'bulk': how many values and letters a reading holds, each counted each time it is reached (what is shared counts as often as it is met; a slice's spare places count too). A statement '..UptoSaid' is the law's where the arguments, and the package variables that the reading takes, are together of bulk at most 1048576: NARROWER than '..Said'. Prove '..Said' where nothing that the law and all that it calls make is longer than what came in: it says more and counts as full. Else prove '..UptoSaid'. A law counts once. -/
mutual
def uptoBulk {H : Type} : DataW H → Nat
  | .lit (.string bytes) => bytes.length + 1
  | .lit _ => 1
  | .nil => 1
  | .ptr d => uptoBulk d + 1
  | .slice elems spare => uptoBulkAll elems + uptoBulkAll spare + 1
  | .agg parts => uptoBulkAll parts + 1
  | .iface _ d => uptoBulk d + 1
  | .map entries => uptoBulkEntries entries + 1
  | .held _ => 1
def uptoBulkAll {H : Type} : List (DataW H) → Nat
  | [] => 0
  | d :: r => uptoBulk d + uptoBulkAll r
def uptoBulkEntries {H : Type} : List (Lit × DataW H) → Nat
  | [] => 0
  | x :: r => uptoBulkEntry x + uptoBulkEntries r
def uptoBulkEntry {H : Type} : Lit × DataW H → Nat
  | (.string bytes, d) => bytes.length + uptoBulk d + 1
  | (_, d) => uptoBulk d + 1
 end
def uptoSmall : (H : Type) → List (DataW H) → Bool := fun _ ds => decide (uptoBulkAll ds ≤ 1048576)
def OpenSpec.upto (s : _root_.Go.ChangeSpec) : _root_.Go.OpenSpec := { _root_.Go.OpenSpec.ofChange s with cond := some uptoSmall }

/-- 'assartlaw07.FsCuts', WHERE WHAT IT READS IS OF BULK AT MOST 1048576: true; the input reads as it did. -/
def fsCutsUptoRow : OpenClaim := { program := "ytjmafbdakalknaadoor", sum := "54524c29c842a304a46554a63dac12870d2d4e3be9de904d863022bb63ee7538", func := "assart/assartlaw07.FsCuts", spec := "fsCuts", inPlace := ["internal/bytealg.IndexByteString", "internal/bytealg.IndexString", "maps.clone"], unfollowed := true, recurses := true, named := ["unicode/utf8.first", "unicode/utf8.acceptRanges", "internal/bytealg.MaxLen"], apart := false, laid := [("unicode/utf8.acceptRanges", laid_unicode_utf8_acceptRanges), ("unicode/utf8.first", laid_unicode_utf8_first)], narrowed := true }
def FsCutsUptoSaid : Prop := fsCutsUptoRow.holds Tryd.pinned (OpenSpec.upto fsCutsSpec)

/-- 'assartlaw07.FsArms', WHERE WHAT IT READS IS OF BULK AT MOST 1048576: true; the input reads as it did. -/
def fsArmsUptoRow : OpenClaim := { program := "ytjmafbdakalknaadoor", sum := "54524c29c842a304a46554a63dac12870d2d4e3be9de904d863022bb63ee7538", func := "assart/assartlaw07.FsArms", spec := "fsArms", inPlace := ["internal/bytealg.IndexByteString", "internal/bytealg.IndexString", "maps.clone"], unfollowed := true, recurses := true, named := ["unicode/utf8.first", "unicode/utf8.acceptRanges", "internal/bytealg.MaxLen"], apart := false, laid := [("unicode/utf8.acceptRanges", laid_unicode_utf8_acceptRanges), ("unicode/utf8.first", laid_unicode_utf8_first)], narrowed := true }
def FsArmsUptoSaid : Prop := fsArmsUptoRow.holds Tryd.pinned (OpenSpec.upto fsArmsSpec)

/-- 'assartlaw07.FsRoom', WHERE WHAT IT READS IS OF BULK AT MOST 1048576: true; the input reads as it did. -/
def fsRoomUptoRow : OpenClaim := { program := "ytjmafbdakalknaadoor", sum := "54524c29c842a304a46554a63dac12870d2d4e3be9de904d863022bb63ee7538", func := "assart/assartlaw07.FsRoom", spec := "fsRoom", inPlace := ["internal/bytealg.IndexByteString", "internal/bytealg.IndexString", "maps.clone"], unfollowed := true, recurses := true, named := ["unicode/utf8.first", "unicode/utf8.acceptRanges", "internal/bytealg.MaxLen"], apart := false, laid := [("unicode/utf8.acceptRanges", laid_unicode_utf8_acceptRanges), ("unicode/utf8.first", laid_unicode_utf8_first)], narrowed := true }
def FsRoomUptoSaid : Prop := fsRoomUptoRow.holds Tryd.pinned (OpenSpec.upto fsRoomSpec)

/-- 'assartlaw07.FsChains', WHERE WHAT IT READS IS OF BULK AT MOST 1048576: true; the input reads as it did. -/
def fsChainsUptoRow : OpenClaim := { program := "ytjmafbdakalknaadoor", sum := "54524c29c842a304a46554a63dac12870d2d4e3be9de904d863022bb63ee7538", func := "assart/assartlaw07.FsChains", spec := "fsChains", inPlace := ["internal/bytealg.IndexByteString", "internal/bytealg.IndexString", "maps.clone"], unfollowed := true, recurses := true, named := ["unicode/utf8.first", "unicode/utf8.acceptRanges", "internal/bytealg.MaxLen"], apart := false, laid := [("unicode/utf8.acceptRanges", laid_unicode_utf8_acceptRanges), ("unicode/utf8.first", laid_unicode_utf8_first)], narrowed := true }
def FsChainsUptoSaid : Prop := fsChainsUptoRow.holds Tryd.pinned (OpenSpec.upto fsChainsSpec)

/-- 'assartlaw07.FsKeeps', WHERE WHAT IT READS IS OF BULK AT MOST 1048576: true; the input reads as it did. -/
def fsKeepsUptoRow : OpenClaim := { program := "ytjmafbdakalknaadoor", sum := "54524c29c842a304a46554a63dac12870d2d4e3be9de904d863022bb63ee7538", func := "assart/assartlaw07.FsKeeps", spec := "fsKeeps", inPlace := ["internal/bytealg.IndexByteString", "internal/bytealg.IndexString", "maps.clone"], unfollowed := true, recurses := true, named := ["unicode/utf8.first", "unicode/utf8.acceptRanges", "internal/bytealg.MaxLen"], apart := false, laid := [("unicode/utf8.acceptRanges", laid_unicode_utf8_acceptRanges), ("unicode/utf8.first", laid_unicode_utf8_first)], narrowed := true }
def FsKeepsUptoSaid : Prop := fsKeepsUptoRow.holds Tryd.pinned (OpenSpec.upto fsKeepsSpec)

/-- 'assartlaw07.FsRenames', WHERE WHAT IT READS IS OF BULK AT MOST 1048576: true; the input reads as it did. -/
def fsRenamesUptoRow : OpenClaim := { program := "ytjmafbdakalknaadoor", sum := "54524c29c842a304a46554a63dac12870d2d4e3be9de904d863022bb63ee7538", func := "assart/assartlaw07.FsRenames", spec := "fsRenames", inPlace := ["internal/bytealg.IndexByteString", "internal/bytealg.IndexString", "maps.clone"], unfollowed := true, recurses := true, named := ["unicode/utf8.first", "unicode/utf8.acceptRanges", "internal/bytealg.MaxLen"], apart := false, laid := [("unicode/utf8.acceptRanges", laid_unicode_utf8_acceptRanges), ("unicode/utf8.first", laid_unicode_utf8_first)], narrowed := true }
def FsRenamesUptoSaid : Prop := fsRenamesUptoRow.holds Tryd.pinned (OpenSpec.upto fsRenamesSpec)

/-- 'assartlaw07.FsDeeds', WHERE WHAT IT READS IS OF BULK AT MOST 1048576: true; the input reads as it did. -/
def fsDeedsUptoRow : OpenClaim := { program := "ytjmafbdakalknaadoor", sum := "54524c29c842a304a46554a63dac12870d2d4e3be9de904d863022bb63ee7538", func := "assart/assartlaw07.FsDeeds", spec := "fsDeeds", inPlace := ["maps.clone", "internal/bytealg.IndexByteString", "internal/bytealg.IndexString"], unfollowed := true, recurses := true, named := ["unicode/utf8.first", "unicode/utf8.acceptRanges", "internal/bytealg.MaxLen"], apart := false, laid := [("unicode/utf8.acceptRanges", laid_unicode_utf8_acceptRanges), ("unicode/utf8.first", laid_unicode_utf8_first)], narrowed := true }
def FsDeedsUptoSaid : Prop := fsDeedsUptoRow.holds Tryd.pinned (OpenSpec.upto fsDeedsSpec)

end Rows
end Go.Proofs.YtjmafbdakalknaaDoor
