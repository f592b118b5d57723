/-
  DERIVED. GIVEN WITH THE SEED: THE CARDS: each row of YtjmafbdakalknaaDoorRows.lean that lists a variable, with what it lists TIED to the program's text (the seventh form; the later family's looks); each row that meets fmt, with fmt's text TOLD by the authors' own Lean function (tested against real Go, not proved from fmt's source: count such statements apart). THE CARD IS WHAT COUNTS. Prove the row's statement (the work); the ties are given (YtjmafbdakalknaaDoorTie.lean); close each card by the builder's one call (the guide's Derived/Test/ToyasCard.lean, 'card_holds'). Laid BY PROGRAM, IN A SANDBOX (cutbox-door.mjs). By AI agents, Wed Nov 11 2026. No macro, syntax, notation, axiom, sorry.
-/
import Derived.Test.YtjmafbdakalknaaDoorRows
import GoSem.ClaimSeven
namespace Go.Proofs.YtjmafbdakalknaaDoor
namespace Rows

/-- THE TIED CARD OF 'assartlaw07.FsCuts'. -/
def fsCutsCard : Claim7 := { stood := { row := fsCutsRow, standIns := [], harness := (true, "95f23be396c71c63d66d2b17092ab1ec7ff793bde07ae0ecaeba838a57b6df2c"), looks := true }, kinds := [], alts := [], laidByText := true, laidKinds := [.data, .pinned], laidTests := true, laidLooks := .later }
def FsCutsCardSaid : Prop := Claim7.holds Tryd.pinned (.plain (OpenSpec.ofChange fsCutsSpec)) fsCutsCard

/-- THE TIED CARD OF 'assartlaw07.FsArms'. -/
def fsArmsCard : Claim7 := { stood := { row := fsArmsRow, standIns := [], harness := (true, "95f23be396c71c63d66d2b17092ab1ec7ff793bde07ae0ecaeba838a57b6df2c"), looks := true }, kinds := [], alts := [], laidByText := true, laidKinds := [.data, .pinned], laidTests := true, laidLooks := .later }
def FsArmsCardSaid : Prop := Claim7.holds Tryd.pinned (.plain (OpenSpec.ofChange fsArmsSpec)) fsArmsCard

/-- THE TIED CARD OF 'assartlaw07.FsRoom'. -/
def fsRoomCard : Claim7 := { stood := { row := fsRoomRow, standIns := [], harness := (true, "95f23be396c71c63d66d2b17092ab1ec7ff793bde07ae0ecaeba838a57b6df2c"), looks := true }, kinds := [], alts := [], laidByText := true, laidKinds := [.data, .pinned], laidTests := true, laidLooks := .later }
def FsRoomCardSaid : Prop := Claim7.holds Tryd.pinned (.plain (OpenSpec.ofChange fsRoomSpec)) fsRoomCard

/-- THE TIED CARD OF 'assartlaw07.FsChains'. -/
def fsChainsCard : Claim7 := { stood := { row := fsChainsRow, standIns := [], harness := (true, "95f23be396c71c63d66d2b17092ab1ec7ff793bde07ae0ecaeba838a57b6df2c"), looks := true }, kinds := [], alts := [], laidByText := true, laidKinds := [.data, .pinned], laidTests := true, laidLooks := .later }
def FsChainsCardSaid : Prop := Claim7.holds Tryd.pinned (.plain (OpenSpec.ofChange fsChainsSpec)) fsChainsCard

/-- THE TIED CARD OF 'assartlaw07.FsKeeps'. -/
def fsKeepsCard : Claim7 := { stood := { row := fsKeepsRow, standIns := [], harness := (true, "95f23be396c71c63d66d2b17092ab1ec7ff793bde07ae0ecaeba838a57b6df2c"), looks := true }, kinds := [], alts := [], laidByText := true, laidKinds := [.data, .pinned], laidTests := true, laidLooks := .later }
def FsKeepsCardSaid : Prop := Claim7.holds Tryd.pinned (.plain (OpenSpec.ofChange fsKeepsSpec)) fsKeepsCard

/-- THE TIED CARD OF 'assartlaw07.FsRenames'. -/
def fsRenamesCard : Claim7 := { stood := { row := fsRenamesRow, standIns := [], harness := (true, "95f23be396c71c63d66d2b17092ab1ec7ff793bde07ae0ecaeba838a57b6df2c"), looks := true }, kinds := [], alts := [], laidByText := true, laidKinds := [.data, .pinned], laidTests := true, laidLooks := .later }
def FsRenamesCardSaid : Prop := Claim7.holds Tryd.pinned (.plain (OpenSpec.ofChange fsRenamesSpec)) fsRenamesCard

/-- THE TIED CARD OF 'assartlaw07.FsDeeds'. -/
def fsDeedsCard : Claim7 := { stood := { row := fsDeedsRow, standIns := [], harness := (true, "95f23be396c71c63d66d2b17092ab1ec7ff793bde07ae0ecaeba838a57b6df2c"), looks := true }, kinds := [], alts := [], laidByText := true, laidKinds := [.data, .pinned], laidTests := true, laidLooks := .later }
def FsDeedsCardSaid : Prop := Claim7.holds Tryd.pinned (.plain (OpenSpec.ofChange fsDeedsSpec)) fsDeedsCard

/-- THE SECOND FORM's CARD OF 'assartlaw07.FsCuts'. -/
def fsCutsUptoCard : Claim7 := { stood := { row := fsCutsUptoRow, standIns := [], harness := (true, "95f23be396c71c63d66d2b17092ab1ec7ff793bde07ae0ecaeba838a57b6df2c"), looks := true }, kinds := [], alts := [], laidByText := true, laidKinds := [.data, .pinned], laidTests := true, laidLooks := .later }
def FsCutsUptoCardSaid : Prop := Claim7.holds Tryd.pinned (.plain (OpenSpec.upto fsCutsSpec)) fsCutsUptoCard

/-- THE SECOND FORM's CARD OF 'assartlaw07.FsArms'. -/
def fsArmsUptoCard : Claim7 := { stood := { row := fsArmsUptoRow, standIns := [], harness := (true, "95f23be396c71c63d66d2b17092ab1ec7ff793bde07ae0ecaeba838a57b6df2c"), looks := true }, kinds := [], alts := [], laidByText := true, laidKinds := [.data, .pinned], laidTests := true, laidLooks := .later }
def FsArmsUptoCardSaid : Prop := Claim7.holds Tryd.pinned (.plain (OpenSpec.upto fsArmsSpec)) fsArmsUptoCard

/-- THE SECOND FORM's CARD OF 'assartlaw07.FsRoom'. -/
def fsRoomUptoCard : Claim7 := { stood := { row := fsRoomUptoRow, standIns := [], harness := (true, "95f23be396c71c63d66d2b17092ab1ec7ff793bde07ae0ecaeba838a57b6df2c"), looks := true }, kinds := [], alts := [], laidByText := true, laidKinds := [.data, .pinned], laidTests := true, laidLooks := .later }
def FsRoomUptoCardSaid : Prop := Claim7.holds Tryd.pinned (.plain (OpenSpec.upto fsRoomSpec)) fsRoomUptoCard

/-- THE SECOND FORM's CARD OF 'assartlaw07.FsChains'. -/
def fsChainsUptoCard : Claim7 := { stood := { row := fsChainsUptoRow, standIns := [], harness := (true, "95f23be396c71c63d66d2b17092ab1ec7ff793bde07ae0ecaeba838a57b6df2c"), looks := true }, kinds := [], alts := [], laidByText := true, laidKinds := [.data, .pinned], laidTests := true, laidLooks := .later }
def FsChainsUptoCardSaid : Prop := Claim7.holds Tryd.pinned (.plain (OpenSpec.upto fsChainsSpec)) fsChainsUptoCard

/-- THE SECOND FORM's CARD OF 'assartlaw07.FsKeeps'. -/
def fsKeepsUptoCard : Claim7 := { stood := { row := fsKeepsUptoRow, standIns := [], harness := (true, "95f23be396c71c63d66d2b17092ab1ec7ff793bde07ae0ecaeba838a57b6df2c"), looks := true }, kinds := [], alts := [], laidByText := true, laidKinds := [.data, .pinned], laidTests := true, laidLooks := .later }
def FsKeepsUptoCardSaid : Prop := Claim7.holds Tryd.pinned (.plain (OpenSpec.upto fsKeepsSpec)) fsKeepsUptoCard

/-- THE SECOND FORM's CARD OF 'assartlaw07.FsRenames'. -/
def fsRenamesUptoCard : Claim7 := { stood := { row := fsRenamesUptoRow, standIns := [], harness := (true, "95f23be396c71c63d66d2b17092ab1ec7ff793bde07ae0ecaeba838a57b6df2c"), looks := true }, kinds := [], alts := [], laidByText := true, laidKinds := [.data, .pinned], laidTests := true, laidLooks := .later }
def FsRenamesUptoCardSaid : Prop := Claim7.holds Tryd.pinned (.plain (OpenSpec.upto fsRenamesSpec)) fsRenamesUptoCard

/-- THE SECOND FORM's CARD OF 'assartlaw07.FsDeeds'. -/
def fsDeedsUptoCard : Claim7 := { stood := { row := fsDeedsUptoRow, standIns := [], harness := (true, "95f23be396c71c63d66d2b17092ab1ec7ff793bde07ae0ecaeba838a57b6df2c"), looks := true }, kinds := [], alts := [], laidByText := true, laidKinds := [.data, .pinned], laidTests := true, laidLooks := .later }
def FsDeedsUptoCardSaid : Prop := Claim7.holds Tryd.pinned (.plain (OpenSpec.upto fsDeedsSpec)) fsDeedsUptoCard
end Rows
end Go.Proofs.YtjmafbdakalknaaDoor
