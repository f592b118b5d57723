/- Tables (Meta), what comes to a level (Added), states: how they lie in memory; the order of texts. Plain. -/
import Derived.Test.YtheanmfdfoefoaaKit
namespace Go.Proofs.Ytheanmfdfoefoaa
open Go Go.RowKit

/-- The order of texts. -/
def slt (a b : ByteArray) : Bool := Op.bytesLess a.toList b.toList
def sle (a b : ByteArray) : Bool := Op.bytesLess a.toList b.toList || a.toList == b.toList

/-- A table. -/
structure MetaD where
  file : Int
  size : Int
  first : ByteArray
  last : ByteArray
def metaC (m : MetaD) : List Value := [.int .i64 m.file, .int .i64 m.size, .string m.first, .string m.last]
theorem metaC_len (m : MetaD) : (metaC m).length = 4 := rfl
/-- What comes to a level. -/
structure AddD where
  level : Int
  t : MetaD
def addC (a : AddD) : List Value := [.int .i64 a.level, .int .i64 a.t.file, .int .i64 a.t.size, .string a.t.first, .string a.t.last]
theorem addC_len (m : AddD) : (addC m).length = 5 := rfl
/-- A place. -/
structure PlD where
  level : Int
  file : Int
def plC (a : PlD) : List Value := [.int .i64 a.level, .int .i64 a.file]
theorem plC_len (m : PlD) : (plC m).length = 2 := rfl

theorem RdT.atB {α : Type} {w W : World} {sz : Nat} {f : α → List Value} {A : Option Addr} {n c : Nat} {l : List α} (h : RdT w sz f (.slice A n c) l) (hb : Below w.heap.size w W) (hf : ∀ a, (f a).length = sz) (hsz : 0 < sz) {k : Nat} (hk : k < l.length) :
    ∃ b off, A = some ⟨b, off, none⟩ ∧ b < w.heap.size ∧ ∀ j u, (f l[k])[j]? = some u → W.cell? ⟨b, off + k * sz + j, none⟩ = some u := by
  obtain ⟨b, off, c', hA, hblt, _, _, hcell⟩ := RdT.at h hf hsz hk
  injection hA with hA _ hcc
  exact ⟨b, off, hA, hblt, fun j u hu => (hb.cell (p := ⟨b, _, none⟩) hblt).trans (hcell j u hu)⟩

theorem atMeta {w W : World} {A : Option Addr} {n c : Nat} {l : List MetaD} (h : RdT w 4 metaC (.slice A n c) l) (hb : Below w.heap.size w W) {k : Nat} (hk : k < l.length) :
    ∃ b off m, A = some ⟨b, off, none⟩ ∧ b < w.heap.size ∧ Hid (l[k] = m) ∧ W.cell? ⟨b, off + k * 4, none⟩ = some (.int .i64 m.file) ∧ W.cell? ⟨b, off + k * 4 + 1, none⟩ = some (.int .i64 m.size) ∧
      W.cell? ⟨b, off + k * 4 + 2, none⟩ = some (.string m.first) ∧ W.cell? ⟨b, off + k * 4 + 3, none⟩ = some (.string m.last) := by
  obtain ⟨b, off, e, hlt, hc⟩ := h.atB hb metaC_len (by omega) hk
  exact ⟨b, off, _, e, hlt, rfl, hc 0 _ rfl, hc 1 _ rfl, hc 2 _ rfl, hc 3 _ rfl⟩
theorem atAdd {w W : World} {A : Option Addr} {n c : Nat} {l : List AddD} (h : RdT w 5 addC (.slice A n c) l) (hb : Below w.heap.size w W) {k : Nat} (hk : k < l.length) :
    ∃ b off m, A = some ⟨b, off, none⟩ ∧ b < w.heap.size ∧ Hid (l[k] = m) ∧ W.cell? ⟨b, off + k * 5, none⟩ = some (.int .i64 m.level) ∧ W.cell? ⟨b, off + k * 5 + 1, none⟩ = some (.int .i64 m.t.file) ∧ W.cell? ⟨b, off + k * 5 + 2, none⟩ = some (.int .i64 m.t.size) ∧
      W.cell? ⟨b, off + k * 5 + 3, none⟩ = some (.string m.t.first) ∧ W.cell? ⟨b, off + k * 5 + 4, none⟩ = some (.string m.t.last) := by
  obtain ⟨b, off, e, hlt, hc⟩ := h.atB hb addC_len (by omega) hk
  exact ⟨b, off, _, e, hlt, rfl, hc 0 _ rfl, hc 1 _ rfl, hc 2 _ rfl, hc 3 _ rfl, hc 4 _ rfl⟩
theorem atPl {w W : World} {A : Option Addr} {n c : Nat} {l : List PlD} (h : RdT w 2 plC (.slice A n c) l) (hb : Below w.heap.size w W) {k : Nat} (hk : k < l.length) :
    ∃ b off m, A = some ⟨b, off, none⟩ ∧ b < w.heap.size ∧ Hid (l[k] = m) ∧ W.cell? ⟨b, off + k * 2, none⟩ = some (.int .i64 m.level) ∧ W.cell? ⟨b, off + k * 2 + 1, none⟩ = some (.int .i64 m.file) := by
  obtain ⟨b, off, e, hlt, hc⟩ := h.atB hb plC_len (by omega) hk
  exact ⟨b, off, _, e, hlt, rfl, hc 0 _ rfl, hc 1 _ rfl⟩
/-- The bounds of a slice value. -/
theorem RdT.len {α : Type} {w : World} {sz : Nat} {f : α → List Value} {v : Value} {l : List α} (h : RdT w sz f v l) : ∃ A c, v = .slice A l.length c ∧ l.length ≤ c ∧ c ≤ 9223372036854775807 := by
  obtain ⟨A, c, rfl, h1, h2, _, _⟩ := h
  exact ⟨A, c, rfl, h1, h2⟩
theorem sizes_below {w W : World} (h : Below w.heap.size w W) : w.heap.size ≤ W.heap.size := h.size
end Go.Proofs.Ytheanmfdfoefoaa
