/- Files that a crash may cut: what the program's calls make of a directory, in plain Lean. No program in sight. -/
import Derived.Test.YtjmafbdakalknaaDoorHvMap
set_option linter.unusedVariables false
namespace Go.Proofs.YtjmafbdakalknaaDoor
open Go Go.RowKit Hv

structure FileD where
  b : List UInt8
  last : Nat
/-- A change of a directory. -/
inductive ChD where
  | new (name : ByteArray) (i : Nat)
  | ren (src dst : ByteArray) (i : Nat)
  | rem (name : ByteArray)
abbrev NmE := Ent ByteArray Nat
/-- Names with files' numbers: a map's entries, and its clock. -/
abbrev DirD := List NmE × Nat
def ChD.app (c : ChD) (d : DirD) : DirD := match c with
  | .new n i => putE d.1 d.2 n i
  | .ren a b i => putE (delE d.1 a) d.2 b i
  | .rem n => (delE d.1 n, d.2)
structure FsD where
  room : Int
  files : List FileD
  now : DirD
  last : DirD
  wait : List ChD
  off : Bool
  armed : Bool
  left : Int
def charB (c : UInt8) : Bool := (decide (97 ≤ c.toNat) && decide (c.toNat ≤ 122)) || (decide (48 ≤ c.toNat) && decide (c.toNat ≤ 57)) || c == 46 || c == 45
def nameB (s : ByteArray) : Bool := !s.toList.isEmpty && decide (s.size ≤ 24) && s.toList.all charB
def fsNew (room : Int) : FsD := ⟨room, [], ([], 0), ([], 0), [], false, false, 0⟩
namespace FsD
def file (d : FsD) (i : Nat) : FileD := d.files[i]?.getD ⟨[], 0⟩
def find (d : FsD) (n : ByteArray) : Int × Option Nat :=
  if nameB n = false then (6, none) else match lookE d.now.1 n with
    | none => (7, none)
    | some i => (0, some i)
def chg (d : FsD) : FsD × Int :=
  if (d.off || (d.armed && d.left == 0)) = true then ({ d with off := true }, 4)
  else if d.armed = true then ({ d with left := d.left - 1 }, 0) else (d, 0)
def asks (d : FsD) : Int := if d.off = true then 4 else 0
def doit (d : FsD) (c : ChD) : FsD := { d with now := c.app d.now, wait := d.wait ++ [c] }
def used (d : FsD) : Nat := (d.now.1.map fun e => (d.file e.val).b.length).sum
def create (d : FsD) (n : ByteArray) : FsD × Int :=
  if (d.find n).1 = 0 then (d, 8) else if (d.find n).1 ≠ 7 then (d, (d.find n).1) else if 400 ≤ d.now.1.length then (d, 14)
  else if d.chg.2 ≠ 0 then d.chg else (({ d.chg.1 with files := d.chg.1.files ++ [⟨[], 0⟩] } : FsD).doit (.new n d.files.length), 0)
def setFile (d : FsD) (i : Nat) (x : FileD) : FsD := { d with files := d.files.set i x }
def append (d : FsD) (n : ByteArray) (b : List UInt8) : FsD × Int := match d.find n with
  | (_, some i) => if 1048576 < (d.file i).b.length + b.length then (d, 14) else if d.room < (d.used : Int) + b.length then (d, 5)
    else if d.chg.2 ≠ 0 then d.chg else (d.chg.1.setFile i ⟨(d.file i).b ++ b, (d.file i).last⟩, 0)
  | (e, none) => (d, e)
def read (d : FsD) (n : ByteArray) (off k : Int) : List UInt8 × Int := match d.find n with
  | (_, some i) => if off < 0 ∨ k < 0 ∨ ((d.file i).b.length : Int) < off then ([], 1) else if d.asks ≠ 0 then ([], d.asks)
    else (((d.file i).b.drop off.toNat).take k.toNat, 0)
  | (e, none) => ([], e)
def size (d : FsD) (n : ByteArray) : Int × Int := match d.find n with
  | (_, some i) => if d.asks ≠ 0 then (0, d.asks) else (((d.file i).b.length : Int), 0)
  | (e, none) => (0, e)
def sync (d : FsD) (n : ByteArray) : FsD × Int := match d.find n with
  | (_, some i) => if d.chg.2 ≠ 0 then d.chg else (d.chg.1.setFile i ⟨(d.file i).b, (d.file i).b.length⟩, 0)
  | (e, none) => (d, e)
def rename (d : FsD) (a b : ByteArray) : FsD × Int :=
  if nameB b = false then (d, 6) else match d.find a with
  | (_, some i) => if d.chg.2 ≠ 0 then d.chg else if a = b then (d.chg.1, 0) else (d.chg.1.doit (.ren a b i), 0)
  | (e, none) => (d, e)
def remove (d : FsD) (n : ByteArray) : FsD × Int := match d.find n with
  | (_, some i) => if d.chg.2 ≠ 0 then d.chg else (d.chg.1.doit (.rem n), 0)
  | (e, none) => (d, e)
def syncDir (d : FsD) : FsD × Int := if d.chg.2 ≠ 0 then d.chg else ({ d.chg.1 with last := d.chg.1.now, wait := [] }, 0)
/-- The names, rising. -/
def sortN (l : List ByteArray) : List ByteArray := (l.map fun s => s.data.toList).mergeSort (fun x y => decide (x ≤ y)) |>.map fun l => ⟨l.toArray⟩
def names (d : FsD) : List ByteArray := sortN (d.now.1.map (·.key))
def list (d : FsD) : List ByteArray × Int := if d.asks ≠ 0 then ([], d.asks) else (d.names, 0)
def arm (d : FsD) (n : Int) : FsD := { d with armed := decide (0 ≤ n), left := n }
/-- The next pick, and those behind it. -/
def next (picks : List Int) : Nat × List Int := match picks with
  | [] => (0, [])
  | p :: r => ((IntKind.u64.wrap p).toNat, r)
def spoil (l : List UInt8) : List UInt8 := match l.getLast? with
  | some b => l.dropLast ++ [b ^^^ 85]
  | none => l
def cutFile (x : FileD) (p : Nat) : FileD :=
  let m := p % (x.b.length - x.last + 1)
  let b := x.b.take (x.last + m)
  let c := if p % 2 = 1 ∧ 0 < m then spoil b else b
  ⟨c, c.length⟩
/-- The files of these names, one behind the other, are cut. -/
def cutAll (now : List NmE) : List ByteArray → List FileD → List Int → List FileD
  | [], fs, _ => fs
  | n :: ns, fs, picks => match lookE now n with
    | some i => match fs[i]? with
      | some x => if x.b.length = x.last then cutAll now ns fs picks else cutAll now ns (fs.set i (cutFile x (next picks).1)) (next picks).2
      | none => cutAll now ns fs picks
    | none => cutAll now ns fs picks
def crash (d : FsD) (picks : List Int) : FsD :=
  let last := (d.wait.take ((next picks).1 % (d.wait.length + 1))).foldl (fun s c => c.app s) d.last
  { d with files := cutAll last.1 (sortN (last.1.map (·.key))) d.files (next picks).2, now := last, last := last, wait := [], off := false, armed := false }
end FsD
end Go.Proofs.YtjmafbdakalknaaDoor
