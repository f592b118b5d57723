/- Abstract values: operations that only read. Plain: over any program. -/
import Derived.Test.YtheanmfdfoefoaaHvOp
set_option linter.unusedVariables false
set_option linter.unusedSimpArgs false
namespace Go.Proofs.Ytheanmfdfoefoaa.Hv
open Go Go.RowKit

def AV.isOne : AV → Bool
  | .lit v => v.oneCell'
  | .sl _ | .ref _ | .rw .. | .ptr .. | .el .. | .mp _ | .fn .. => true
  | _ => false
/-- What others may see of it. -/
def AV.view1 (H : Hp) : AV → AV
  | .lit v => bif isNilV v then .sl [] else .lit v
  | .rw id sz ko len => match H id with
    | some (.row false _ items) => bif fits items sz ko len then .sl (piece items ko len) else .dead
    | some (.frz _ items) => bif fits items sz ko len then .sl (piece items ko len) else .dead
    | _ => .dead
  | a => a
def AV.view (H : Hp) : AV → AV
  | .agg cs => .agg (cs.map (AV.view1 H))
  | a => a.view1 H
def AV.viewR (H : Hp) : AV → AV
  | .tup cs => .tup (cs.map (AV.view H))
  | a => a.view H
def apick (b : Bool) (x y : AV) : AV :=
  match x, y with
  | .lit (.bool p), .lit (.bool q) => .lit (.bool (bif b then p else q))
  | x, y => bif b then x else y
def readA (H : Hp) : AV → Option (List AV)
  | .ref cs => some cs
  | .ptr id off => match H id with
    | some (.cells cs) => some (cs.drop off)
    | _ => none
  | .el id sz k off => match H id with
    | some (.row _ _ items) => match items[k]? with
      | some it => bif Nat.beq it.length sz then some (it.drop off) else none
      | none => none
    | _ => none
  | _ => none
def Tbl.fld (T : Tbl) (t f : Nat) : Option Nat := (lk? T.flds t).bind fun l => lk? l f
def onum (d : Int) : Option AV → Option Int | none => some d | some x => x.num?
def acutS (s : ByteArray) (l h : Int) : Option AV := if 0 ≤ l ∧ l ≤ h ∧ h ≤ s.size then some (.lit (.string (s.extract l.toNat h.toNat))) else none
def acutL (I : SlI) (items : List (List AV)) (l h : Int) : Option AV := if (0 ≤ l ∧ l ≤ h ∧ h ≤ items.length) ∧ ∀ it ∈ items, it.length = I.size then some (.sl ((items.take h.toNat).drop l.toNat)) else none
def acutR (I : SlI) (id sz ko len : Nat) (l h : Int) : Option AV := if (0 ≤ l ∧ l ≤ h ∧ h ≤ len) ∧ sz = I.size then some (.rw id sz (ko + l.toNat) (h - l).toNat) else none
def acut (T : Tbl) (t : Nat) (x : AV) (lo hi : Option AV) : Option AV :=
  match x with
  | .lit (.string s) => bif T.strs.elem t then (onum 0 lo).bind fun l => (onum s.size hi).bind fun h => acutS s l h else none
  | .lit v => bif isNilV v then (lk? T.sls t).bind fun I => (onum 0 lo).bind fun l => (onum 0 hi).bind fun h => acutL I [] l h else none
  | .sl items => (lk? T.sls t).bind fun I => (onum 0 lo).bind fun l => (onum items.length hi).bind fun h => acutL I items l h
  | .rw id sz ko len => (lk? T.sls t).bind fun I => (onum 0 lo).bind fun l => (onum len hi).bind fun h => acutR I id sz ko len l h
  | _ => none
/-- The address of a slice's thing, of an array's. -/
def aidx (T : Tbl) (H : Hp) (t : Nat) (x : AV) (n : Int) : Option AV :=
  if 0 ≤ n then (match lk? T.arrs t with
    | some (len, _, sz) => if n < len then (match x with
      | .ptr id off => some (.ptr id (off + n.toNat * sz))
      | .ref cs => some (.ref (cs.drop (n.toNat * sz)))
      | _ => none) else none
    | none => match lk? T.sls t with
      | some I => match x with
        | .rw id sz ko len => match H id with
          | some (.row true _ _) => if n < len ∧ sz = I.size then some (.el id sz (ko + n.toNat) 0) else none
          | _ => match x.its? H with
            | some items => match items[n.toNat]? with
              | some it => if it.length = I.size then some (.ref it) else none
              | none => none
            | none => none
        | x => match x.its? H with
          | some items => match items[n.toNat]? with
            | some it => if it.length = I.size then some (.ref it) else none
            | none => none
          | none => none
      | none => none) else none
def alen (T : Tbl) (H : Hp) (t : Nat) (x : AV) : Option Int := match x with
  | .lit (.string s) => bif T.strs.elem t then some (s.size : Int) else none
  | .mp id => match lk? T.maps t, H id with
    | some _, some (.map es _) => some (es.length : Int)
    | _, _ => none
  | .rw _ _ _ len => (lk? T.sls t).map fun _ => (len : Int)
  | x => (lk? T.sls t).bind fun _ => (x.its? H).map fun l => (l.length : Int)
/-- Are two keys the same? -/
def keyCell : AV → AV → Option Bool
  | .lit (.int k a), .lit (.int k' b) => if k = k' then some (a == b) else none
  | .lit (.string a), .lit (.string b) => some (a == b)
  | .lit (.bool a), .lit (.bool b) => some (a == b)
  | _, _ => none
def keyCells : List AV → List AV → Option Bool
  | [], [] => some true
  | a :: as, b :: bs => match keyCell a b, keyCells as bs with
    | some x, some y => some (x && y)
    | _, _ => none
  | _, _ => none
def keyEq : AV → AV → Option Bool
  | .agg as, .agg bs => keyCells as bs
  | a, b => keyCell a b
/-- An entry's place. -/
def mfind (k : AV) : List ME → Nat → Option (Option (Nat × AV))
  | [], _ => some none
  | e :: es, i => match keyEq k e.key with
    | some true => some (some (i, e.val))
    | some false => mfind k es (i + 1)
    | none => none
def kmatchA : List CK → List AV → Bool
  | [], [] => true
  | c :: cs, .lit v :: vs => ckIs c v && kmatchA cs vs
  | _, _ => false
def keyKind (T : Tbl) (t : Nat) (k : AV) : Bool := match k with
  | .lit (.int _ _) => (lk? T.ints t).isSome
  | .lit (.string _) => T.strs.elem t
  | .lit (.bool _) => T.bools.elem t
  | .agg cs => match lk? T.keys t with
    | some ks => kmatchA ks cs
    | none => false
  | _ => false
def alook (T : Tbl) (H : Hp) (t : Nat) (x k : AV) (ok : Bool) : Option AV :=
  match lk? T.maps t with
  | some I => bif keyKind T I.key k then (match (match x with
      | .mp id => match H id with
        | some (.map es _) => mfind k es 0
        | _ => none
      | .lit (.map none) => some none
      | _ => none) with
    | some (some (_, v)) => some (bif ok then .tup [v, .lit (.bool true)] else v)
    | some none => some (bif ok then .tup [.lit I.zero, .lit (.bool false)] else .lit I.zero)
    | none => none) else none
  | none => none
/-- The entry at which a walk stands. -/
def aentry (H : Hp) (x : AV) : Option AV := match x with
  | .ptr id 0 => match H id with
    | some (.iter (some m) _ seen last) => match H m with
      | some (.map es clock) => match seen.getLast? with
        | some b => if clock = last then (match es.find? (fun e => e.born == b) with
          | some e => some (.tup [e.key, e.val])
          | none => none) else none
        | none => none
      | _ => none
    | _ => none
  | _ => none
def abuild (pl : List (Nat × Nat)) (ρ : Operand → AV) : List (Nat × Operand) → List AV → Option (List AV)
  | [], cs => some cs
  | (i, x) :: r, cs => match pl[i]? with
    | some (off, size) => if ((ρ x).cells.length = size ∧ off + size ≤ cs.length) ∧ (ρ x).cells.all AV.isOne = true then abuild pl ρ r (setR cs off (ρ x).cells) else none
    | none => none
/-- Bytes' numbers. -/
def bytesOf : List (List AV) → Option (List Int)
  | [] => some []
  | [.lit (.int .u8 n)] :: r => match bytesOf r with
    | some l => some (n :: l)
    | none => none
  | _ :: _ => none
def aindexS (s : ByteArray) (n : Int) : Option AV := if 0 ≤ n then (match s.data.toList[n.toNat]? with | some b => some (.lit (.int .u8 b.toNat)) | none => none) else none
/-- An array value's thing. -/
def aindexA (T : Tbl) (cs : List AV) (len e sz : Nat) (n : Int) : Option AV := if 0 ≤ n ∧ n < len ∧ len * sz = cs.length then (match lk? T.szs e with
    | some none => cs[n.toNat * sz]?
    | some (some m) => if m = sz then some (.agg ((cs.drop (n.toNat * sz)).take sz)) else none
    | none => none) else none
def nonNil : AV → Bool
  | .ref _ | .ptr .. | .el .. | .fn .. => true
  | _ => false
def litArgs (ρ : Operand → AV) (l : Array Operand) : List AV := l.toList.map ρ
/-- An operation's value, where it only reads. -/
def fval (T : Tbl) (H : Hp) (op : Op) (ρ : Operand → AV) : Option AV :=
  match op with
  | .move x => some (ρ x)
  | .assign x => some (ρ x)
  | .pick c x y => match (ρ c).bool? with
    | some b => some (apick b (ρ x) (ρ y))
    | none => none
  | .binOp op t x y _ => match binv T op t (ρ x) (ρ y) with
    | some r => some (.lit r)
    | none => none
  | .unOp op _ x => match (ρ x).lit? with
    | some u => match aun op u with
      | some r => some (.lit r)
      | none => none
    | none => none
  | .load t x => match lk? T.szs t, readA H (ρ x) with
    | some none, some (c :: _) => some c
    | some (some n), some cs => if n ≤ cs.length then some (.agg (cs.take n)) else none
    | _, _ => none
  | .fieldAddr t x f => match T.fld t f, ρ x with
    | some off, .ref cs => some (.ref (cs.drop off))
    | some off, .ptr id k => some (.ptr id (k + off))
    | some off, .el id sz i k => some (.el id sz i (k + off))
    | _, _ => none
  | .indexAddr t x i => match (ρ i).int? with
    | some (_, n) => aidx T H t (ρ x) n
    | none => none
  | .index t x i => match ρ x, (ρ i).int? with
    | .lit (.string s), some (_, n) => bif T.strs.elem t then aindexS s n else none
    | .agg cs, some (_, n) => match lk? T.arrs t with
      | some (len, e, sz) => aindexA T cs len e sz n
      | none => none
    | _, _ => none
  | .lookup t x k ok => alook T H t (ρ x) (ρ k) ok
  | .build t parts => match lk? T.zeros t, lk? T.fszs t with
    | some z, some pl => if (z.cells.toList.map AV.lit).all AV.isOne = true then (match abuild pl ρ parts.toList (z.cells.toList.map .lit) with
      | some cs => some (.agg cs)
      | none => none) else none
    | _, _ => none
  | .extract x i => match ρ x with
    | .tup cs => cs[i]?
    | _ => none
  | .slice t x lo hi none => acut T t (ρ x) (lo.map ρ) (hi.map ρ)
  | .convert t0 t x => match lk? T.ints t0, lk? T.ints t, (ρ x).int? with
    | some _, some k, some (_, n) => some (.lit (.int k (k.wrap n)))
    | _, _, _ => bif T.byts.elem t0 && T.strs.elem t then (match (ρ x).its? H with
      | some items => match bytesOf items with
        | some l => some (.lit (.string (strOfNums l)))
        | none => none
      | none => none) else none
  | .nilCheck x => bif nonNil (ρ x) then some (ρ x) else none
  | .makeFunc (.func f) first caps => match first.toList with
    | [] => some (.fn f (litArgs ρ caps))
    | _ => none
  | .entry x => aentry H (ρ x)
  | .call c => match c.callee, c.args.toList, c.argTypes.toList with
    | .builtin .len, [x], t :: _ => match alen T H t (ρ x) with
      | some n => some (.lit (.int .i64 n))
      | none => none
    | .builtin .min, [x, y], _ => match (ρ x).int?, (ρ y).int? with
      | some (k, m), some (_, n) => some (.lit (.int k (if n < m then n else m)))
      | _, _ => none
    | .builtin .max, [x, y], _ => match (ρ x).int?, (ρ y).int? with
      | some (k, m), some (_, n) => some (.lit (.int k (if n > m then n else m)))
      | _, _ => none
    | _, _, _ => none
  | _ => none
end Go.Proofs.Ytheanmfdfoefoaa.Hv
