/- Edit: how tables, places, edits, states stand in the walk over a heap; the program's tests in plain words. No program in sight. -/
import Derived.Test.YtheanmfdfoefoaaDoc
import Derived.Test.YtheanmfdfoefoaaHvSet
namespace Go.Proofs.Ytheanmfdfoefoaa
open Go Go.RowKit Hv

def iA (n : Int) : AV := .lit (.int .i64 n)
def metaH (m : MetaD) : List AV := [.lit (.int .i64 m.file), .lit (.int .i64 m.size), .lit (.string m.first), .lit (.string m.last)]
def addH (a : AddD) : List AV := [.lit (.int .i64 a.level), .lit (.int .i64 a.t.file), .lit (.int .i64 a.t.size), .lit (.string a.t.first), .lit (.string a.t.last)]
def plH (p : PlD) : List AV := [.lit (.int .i64 p.level), .lit (.int .i64 p.file)]
def edH (e : EdD) : AV := .agg [.lit (.int .i64 e.log), .lit (.int .i64 e.next), .lit (.int .i64 e.seq), .sl (e.gone.map plH), .sl (e.new.map addH)]
def stH (s : StD) : AV := .agg [.lit (.int .i64 s.log), .lit (.int .i64 s.next), .lit (.int .i64 s.seq), .sl ((s.lv 0).map metaH), .sl ((s.lv 1).map metaH), .sl ((s.lv 2).map metaH), .sl ((s.lv 3).map metaH)]
theorem noId_metas (l : List MetaD) : NoId (.sl (l.map metaH)) := by simp [noId_sl, metaH, noId_lit]
theorem noId_pls (l : List PlD) : NoId (.sl (l.map plH)) := by simp [noId_sl, plH, noId_lit]
theorem noId_adds (l : List AddD) : NoId (.sl (l.map addH)) := by simp [noId_sl, addH, noId_lit]
theorem noId_ed (e : EdD) : NoId (edH e) := by simp [edH, noId_agg, noId_lit, noId_pls, noId_adds]
theorem noId_st (s : StD) : NoId (stH s) := by simp [stH, noId_agg, noId_lit, noId_metas]
theorem nid1 {a : AV} (h : NoId a) : ∀ x ∈ [a], NoId x := by simpa using h
theorem nid2 {a b : AV} (h : NoId a) (h' : NoId b) : ∀ x ∈ [a, b], NoId x := by
  intro x hx
  simp only [List.mem_cons, List.not_mem_nil, or_false] at hx
  rcases hx with rfl | rfl
  · exact h
  · exact h'
def withinB (n lo hi : Int) : Bool := decide (lo ≤ n) && decide (n ≤ hi)
def toldB (n lo hi : Int) : Bool := (n == -1) || withinB n lo hi
theorem isKey_keyB (s : ByteArray) : withinB s.size 1 64 = keyB s := by
  unfold withinB keyB
  have hl : s.toList.length = s.size := by rw [ByteArray.toList_eq, Array.length_toList]; rfl
  congr 1
  cases h : s.toList with
  | nil =>
    rw [h] at hl
    have : ¬ (1 : Int) ≤ (s.size : Int) := by simp only [List.length_nil] at hl; omega
    simp only [this, decide_false]; rfl
  | cons a l =>
    rw [h] at hl
    have : (1 : Int) ≤ (s.size : Int) := by simp only [List.length_cons] at hl; omega
    simp only [this, decide_true]; rfl
theorem pl_plB (p : PlD) : (withinB p.level 0 3 && withinB p.file 1 999999) = plB p := by
  unfold withinB plB
  rw [Bool.eq_iff_iff]; simp only [Bool.and_eq_true, decide_eq_true_eq]; omega
theorem meta_tableB (m : MetaD) : (withinB m.file 1 999999 && withinB m.size 1 1048576 && keyB m.first && keyB m.last && sle m.first m.last) = tableB m := by
  unfold withinB tableB
  rw [Bool.eq_iff_iff]; simp only [Bool.and_eq_true, and_assoc]
theorem add_addB (a : AddD) : (withinB a.level 0 3 && tableB a.t) = addB a := by
  unfold withinB addB
  congr 1
  rw [Bool.eq_iff_iff]; simp only [Bool.and_eq_true, decide_eq_true_eq]; omega
theorem any_not {α : Type} (l : List α) (p : α → Bool) : (!(l.any fun x => !p x)) = l.all p := by
  induction l with
  | nil => rfl
  | cons a l ih => simp only [List.any_cons, List.all_cons, ← ih, Bool.not_or, Bool.not_not]
theorem ed_rightB (e : EdD) : (toldB e.log 1 1000000 && toldB e.next 1 1000000 && toldB e.seq 0 72057594037927935 && decide ((e.gone.length : Int) ≤ 1000) && decide ((e.new.length : Int) ≤ 1000) && !(e.gone.any fun p => !plB p) && !(e.new.any fun a => !addB a)) = rightB e := by
  rw [any_not, any_not]
  unfold rightB headB
  congr 1
  congr 1
  congr 1
  congr 1
  unfold toldB withinB numsB
  rw [Bool.eq_iff_iff]; simp only [Bool.and_eq_true, Bool.or_eq_true, beq_iff_eq, decide_eq_true_eq, Bool.not_eq_true', Bool.or_eq_false_iff, decide_eq_false_iff_not, beq_eq_false_iff_ne, ne_eq]; omega
/-- The place of the first one. -/
def idxZ {α : Type} (p : α → Bool) (l : List α) : Int := match l.findIdx? p with
  | some k => (k : Int)
  | none => -1
theorem idxZ_at {α : Type} {p : α → Bool} {l : List α} {k : Nat} {x : α} (h : (l.take k).any p = false) (hx : l[k]? = some x) (hp : p x = true) : idxZ p l = k := by
  have : l.findIdx? p = some k := by
    obtain ⟨hk, rfl⟩ := List.getElem?_eq_some_iff.1 hx
    rw [List.findIdx?_eq_some_iff_getElem]
    refine ⟨hk, hp, fun j hj => ?_⟩
    rw [List.any_eq_false] at h
    simpa using h l[j] (List.mem_take_iff_getElem.2 ⟨j, by omega, rfl⟩)
  unfold idxZ; rw [this]
theorem idxZ_none {α : Type} {p : α → Bool} {l : List α} (h : l.any p = false) : idxZ p l = -1 := by
  have : l.findIdx? p = none := by
    rw [List.findIdx?_eq_none_iff]
    rw [List.any_eq_false] at h
    intro x hx; simpa using h x hx
  unfold idxZ; rw [this]
theorem idxZ_any {α : Type} (p : α → Bool) (l : List α) : decide (0 ≤ idxZ p l) = l.any p := by
  unfold idxZ
  cases h : l.findIdx? p with
  | none =>
    rw [List.findIdx?_eq_none_iff] at h
    have : l.any p = false := by rw [List.any_eq_false]; intro x hx; simpa using h x hx
    rw [this]; rfl
  | some k =>
    rw [List.findIdx?_eq_some_iff_getElem] at h
    obtain ⟨hk, hp, _⟩ := h
    have : l.any p = true := List.any_eq_true.2 ⟨l[k], List.getElem_mem _, hp⟩
    rw [this]; simp
theorem any_step {α : Type} {p : α → Bool} {l : List α} {k : Nat} {x : α} (h : (l.take k).any p = false) (hx : l[k]? = some x) (hp : p x = false) : (l.take (k + 1)).any p = false := by
  rw [List.take_add_one, hx, List.any_append, h]; simp [hp]
theorem wrap_nat {k : Nat} (h : k < 4611686018427387904) : IntKind.i64.wrap ((k : Int) + 1) = ((k + 1 : Nat) : Int) := by
  simp [IntKind.wrap, IntKind.bits, IntKind.signed]; omega
end Go.Proofs.Ytheanmfdfoefoaa
