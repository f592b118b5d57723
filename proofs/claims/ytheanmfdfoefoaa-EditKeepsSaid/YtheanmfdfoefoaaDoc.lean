/- Tables, states, edits: what the document's functions compute, in plain Lean. No program in sight. -/
import Derived.Test.YtheanmfdfoefoaaMeta
namespace Go.Proofs.Ytheanmfdfoefoaa
open Go Go.RowKit

/-! ### loops that ask of all -/
theorem all_fail {α : Type} {p : α → Bool} {l : List α} {k : Nat} (hk : k < l.length) (h : p l[k] = false) : l.all p = false := by
  rw [List.all_eq_false]
  exact ⟨l[k], List.getElem_mem _, by simp [h]⟩
theorem any_hit {α : Type} {p : α → Bool} {l : List α} {k : Nat} (hk : k < l.length) (h : p l[k] = true) : l.any p = true := by
  rw [List.any_eq_true]
  exact ⟨l[k], List.getElem_mem _, h⟩
theorem take_next {α : Type} {l : List α} {k : Nat} (hk : k < l.length) : l.take (k + 1) = l.take k ++ [l[k]] := List.take_succ_eq_append_getElem hk
theorem all_next {α : Type} {p : α → Bool} {l : List α} {k : Nat} (hk : k < l.length) (h0 : (l.take k).all p = true) (h : p l[k] = true) : (l.take (k + 1)).all p = true := by
  rw [take_next hk, List.all_append, h0]; simp [h]
theorem any_next {α : Type} {p : α → Bool} {l : List α} {k : Nat} (hk : k < l.length) (h0 : (l.take k).any p = false) (h : p l[k] = false) : (l.take (k + 1)).any p = false := by
  rw [take_next hk, List.any_append, h0]; simp [h]
theorem filter_next {α : Type} {p : α → Bool} {l : List α} {k : Nat} (hk : k < l.length) : (l.take (k + 1)).filter p = (l.take k).filter p ++ if p l[k] then [l[k]] else [] := by
  rw [take_next hk, List.filter_append]; simp [List.filter_cons]
theorem map_next {α β : Type} {f : α → β} {l : List α} {k : Nat} (hk : k < l.length) : (l.take (k + 1)).map f = (l.take k).map f ++ [f l[k]] := by
  rw [take_next hk, List.map_append]; rfl
theorem fold_next {α β : Type} {f : β → α → β} {b : β} {l : List α} {k : Nat} (hk : k < l.length) : (l.take (k + 1)).foldl f b = f ((l.take k).foldl f b) l[k] := by
  rw [take_next hk, List.foldl_append]; rfl

/-- An edit. -/
structure EdD where
  log : Int
  next : Int
  seq : Int
  gone : List PlD
  new : List AddD
/-- A state. -/
structure StD where
  log : Int
  next : Int
  seq : Int
  lv : Nat → List MetaD
def StD.with (s : StD) (n : Nat) (l : List MetaD) : StD := { s with lv := fun k => if k = n then l else s.lv k }
def emptyS : StD := ⟨1, 1, 0, fun _ => []⟩
def noS : StD := ⟨0, 0, 0, fun _ => []⟩

def keyB (s : ByteArray) : Bool := !s.toList.isEmpty && decide ((s.size : Int) ≤ 64)
def tableB (m : MetaD) : Bool := decide (1 ≤ m.file) && decide (m.file ≤ 999999) && decide (1 ≤ m.size) && decide (m.size ≤ 1048576) && keyB m.first && keyB m.last && sle m.first m.last
def plB (p : PlD) : Bool := decide (0 ≤ p.level) && decide (p.level < 4) && decide (1 ≤ p.file) && decide (p.file ≤ 999999)
def addB (a : AddD) : Bool := decide (0 ≤ a.level) && decide (a.level < 4) && tableB a.t
def numsB (e : EdD) : Bool := !(decide (e.log < -1) || e.log == 0 || decide (1000000 < e.log) || decide (e.next < -1) || e.next == 0 || decide (1000000 < e.next) || decide (e.seq < -1) || decide (72057594037927935 < e.seq))
def headB (e : EdD) : Bool := numsB e && decide ((e.gone.length : Int) ≤ 1000) && decide ((e.new.length : Int) ≤ 1000)
def rightB (e : EdD) : Bool := headB e && e.gone.all plB && e.new.all addB
theorem headB_iff (e : EdD) : headB e = true ↔ (-1 ≤ e.log ∧ e.log ≠ 0 ∧ e.log ≤ 1000000) ∧ (-1 ≤ e.next ∧ e.next ≠ 0 ∧ e.next ≤ 1000000) ∧ (-1 ≤ e.seq ∧ e.seq ≤ 72057594037927935) ∧ e.gone.length ≤ 1000 ∧ e.new.length ≤ 1000 := by
  unfold headB numsB
  simp
  omega

def withoutL (l : List MetaD) (f : Int) : List MetaD := l.filter fun m => m.file != f
def goneS : StD → List PlD → Option StD
  | s, [] => some s
  | s, p :: l => if (withoutL (s.lv p.level.toNat) p.file).length < (s.lv p.level.toNat).length then goneS (s.with p.level.toNat (withoutL (s.lv p.level.toNat) p.file)) l else none
def hasB (s : StD) (f : Int) : Bool := (s.lv 0).any (·.file == f) || (s.lv 1).any (·.file == f) || (s.lv 2).any (·.file == f) || (s.lv 3).any (·.file == f)
def ahead (level : Nat) (m x : MetaD) : Bool := if level = 0 then decide (x.file < m.file) else slt x.first m.first
def putL (l : List MetaD) (m : MetaD) (level : Nat) : List MetaD := l.takeWhile (ahead level m) ++ m :: l.dropWhile (ahead level m)
def newS : StD → List AddD → Option StD
  | s, [] => some s
  | s, a :: l => if hasB s a.t.file then none else newS (s.with a.level.toNat (putL (s.lv a.level.toNat) a.t a.level.toNat)) l
def countS (s : StD) : Nat := (s.lv 0).length + (s.lv 1).length + (s.lv 2).length + (s.lv 3).length
def apartL : List MetaD → Bool
  | a :: b :: l => !sle b.first a.last && apartL (b :: l)
  | _ => true
def told (n old : Int) : Int := if 0 ≤ n then n else old
def badB (s : StD) (e : EdD) : Bool := (decide (0 ≤ e.log) && decide (e.log < s.log)) || (decide (0 ≤ e.next) && decide (e.next < s.next)) || (decide (0 ≤ e.seq) && decide (e.seq < s.seq))
def tellS (s : StD) (e : EdD) : StD := ⟨told e.log s.log, told e.next s.next, told e.seq s.seq, s.lv⟩
def apartS (s : StD) : Bool := apartL (s.lv 1) && apartL (s.lv 2) && apartL (s.lv 3)
def applyEnd (s2 : StD) (e : EdD) : StD × Int := if 1000 < countS s2 then (noS, 14) else if apartS s2 = false then (noS, 2) else (tellS s2 e, 0)
def applyNew (s1 : StD) (e : EdD) : StD × Int := match newS s1 e.new with
  | none => (noS, 8)
  | some s2 => applyEnd s2 e
def applyGo (s : StD) (e : EdD) : StD × Int := match goneS s e.gone with
  | none => (noS, 7)
  | some s1 => applyNew s1 e
def docApply (s : StD) (e : EdD) : StD × Int :=
  if rightB e = false then (noS, 2) else if badB s e = true then (noS, 1) else applyGo s e
theorem apart_iff : ∀ (l : List MetaD), apartL l = true ↔ ∀ k (h : k + 1 < l.length), sle l[k + 1].first (l[k]'(by omega)).last = false := by
  intro l
  induction l with
  | nil => simp [apartL]
  | cons a l ih =>
    cases l with
    | nil => simp [apartL]
    | cons b l =>
      rw [apartL, Bool.and_eq_true, ih]
      constructor
      · intro ⟨h1, h2⟩ k hk
        cases k with
        | zero => simpa using h1
        | succ k => exact h2 k (by simpa using hk)
      · intro h
        exact ⟨by simpa using h 0 (by simp), fun k hk => h (k + 1) (by simpa using hk)⟩
theorem with_nums (s : StD) (n : Nat) (l : List MetaD) : (s.with n l).log = s.log ∧ (s.with n l).next = s.next ∧ (s.with n l).seq = s.seq := ⟨rfl, rfl, rfl⟩
theorem goneS_nums : ∀ (l : List PlD) (s s' : StD), goneS s l = some s' → s'.log = s.log ∧ s'.next = s.next ∧ s'.seq = s.seq := by
  intro l
  induction l with
  | nil => intro s s' h; simp only [goneS, Option.some.injEq] at h; subst h; exact ⟨rfl, rfl, rfl⟩
  | cons p l ih =>
    intro s s' h
    simp only [goneS] at h
    split at h
    · have := ih _ _ h; exact this
    · cases h
theorem newS_nums : ∀ (l : List AddD) (s s' : StD), newS s l = some s' → s'.log = s.log ∧ s'.next = s.next ∧ s'.seq = s.seq := by
  intro l
  induction l with
  | nil => intro s s' h; simp only [newS, Option.some.injEq] at h; subst h; exact ⟨rfl, rfl, rfl⟩
  | cons p l ih =>
    intro s s' h
    simp only [newS] at h
    split at h
    · cases h
    · have := ih _ _ h; exact this
theorem putL_perm (l : List MetaD) (m : MetaD) (n : Nat) : (putL l m n).Perm (m :: l) := by
  unfold putL
  refine List.perm_middle.trans ?_
  rw [List.takeWhile_append_dropWhile]
theorem putL_len (l : List MetaD) (m : MetaD) (n : Nat) : (putL l m n).length = l.length + 1 := by rw [(putL_perm l m n).length_eq]; rfl
theorem withoutL_len (l : List MetaD) (f : Int) : (withoutL l f).length ≤ l.length := List.length_filter_le _ _
theorem with_lv (s : StD) (n k : Nat) (l : List MetaD) : (s.with n l).lv k = if k = n then l else s.lv k := rfl
end Go.Proofs.Ytheanmfdfoefoaa
