/- From what the rows read to what the walks are told: slices of cells, of numbers. -/
import Derived.Test.YticplbnnmajcpaaKeepD
import Derived.Deep.Slices
import Derived.Deep.Strs
import Derived.Lib.SmallJoins
import Derived.ProofKit
namespace Go.Proofs.Yticplbnnmajcpaa
open Go Go.RowKit Go.ChangeShapes Go.WideShapes

theorem list3 {α : Type} {l : List α} (h : l.length = 3) : ∃ a b c, l = [a, b, c] := by
  match l, h with
  | [a, b, c], _ => exact ⟨a, b, c, rfl⟩
theorem list4 {α : Type} {l : List α} (h : l.length = 4) : ∃ a b c d, l = [a, b, c, d] := by
  match l, h with
  | [a, b, c, d], _ => exact ⟨a, b, c, d, rfl⟩
theorem list1 {α : Type} {l : List α} (h : l.length = 1) : ∃ a, l = [a] := by
  match l, h with
  | [a], _ => exact ⟨a, rfl⟩
section
variable {H : Type} {enc : TypeId × Value → H} {P : Program} {w : World} {base : Nat} {spare : Nat → Bool} {held : Bool}
theorem open_elems {α : Type} [Inhabited α] {sz : Nat} {f : α → List Value} {good : α → Prop} (hf : ∀ a, (f a).length = sz) {t e : TypeId} {fuel : Nat} {v : Value} {x : DataW H × List MemPlace}
    (ht : P.underlying t = some (.slice e)) (hC : P.cellsOf e = sz) (hread : ∀ (n : Nat) (cs : List Value) (y : DataW H × List MemPlace), DataW.trod enc P w base spare held n e cs = some y → ∃ a, cs = f a ∧ good a)
    (h : DataW.trod enc P w base spare held fuel t [v] = some x) : ∃ l : List α, RdT w sz f v l ∧ ∀ a ∈ l, good a := by
  rcases Go.Deep.open_slice ht h with ⟨h0, _⟩ | ⟨a, len, cap, m, n, D, Pl, hcs, _, hl, hm, hmm, _, hi⟩
  · simp only [List.cons.injEq, and_true] at h0
    subst h0
    exact ⟨[], ⟨none, 0, rfl, Nat.le_refl _, Nat.zero_le _, by simp, fun h => absurd h (by simp)⟩, fun _ h => by simp at h⟩
  · simp only [List.cons.injEq, and_true] at hcs
    subst hcs
    have hlm : len ≤ m := by rw [hmm]; split <;> omega
    obtain ⟨g, hg⟩ := Go.Deep.choose_lt (n := len) (p := fun i a' => good a' ∧ ∀ j u, (f a')[j]? = some u → w.cell? (a.add (i * sz + j)) = some u) (fun i hil => by
      obtain ⟨cs', hc, ht'⟩ := hi i (by omega)
      obtain ⟨b, rfl, hb⟩ := hread n cs' _ ht'
      rw [hC] at hc
      obtain ⟨_, _, hat⟩ := World.cells?_some hc
      refine ⟨b, hb, fun j u hu => ?_⟩
      have hj : j < sz := by
        have := (List.getElem?_eq_some_iff.1 hu).1
        rwa [hf] at this
      have := hat j hj
      rw [add_add'] at this
      rw [this, hu])
    refine ⟨(List.range len).map g, ⟨some a, cap, by simp, by simpa using hl, hm, ?_, fun _ => ⟨a, rfl, fun j u hu => ?_⟩⟩, ?_⟩
    · rw [flatMap_len hf]
    · have hjl : j < ((List.range len).map g).length * sz := by
        have := (List.getElem?_eq_some_iff.1 hu).1
        rwa [flatMap_len hf] at this
      rcases Nat.eq_zero_or_pos sz with h0 | h0
      · subst h0; simp at hjl
      · have hq : j / sz < ((List.range len).map g).length := (Nat.div_lt_iff_lt_mul h0).2 hjl
        have hr : j % sz < sz := Nat.mod_lt _ h0
        have e := flatMap_get hf ((List.range len).map g) (j / sz) (j % sz) hq hr
        have ej : j / sz * sz + j % sz = j := by rw [Nat.mul_comm]; exact Nat.div_add_mod j sz
        rw [ej, hu] at e
        have := (hg (j / sz) (by simpa using hq)).2 (j % sz) u (by rw [e]; simp)
        rwa [ej] at this
    · intro x hx
      obtain ⟨i, hi', rfl⟩ := List.mem_map.1 hx
      exact (hg i (List.mem_range.1 hi')).1
end


section
variable {H : Type} {enc : TypeId × Value → H} {P : Program} {w : World} {base : Nat} {spare : Nat → Bool} {held : Bool}
theorem trod_struct2' {t : TypeId} {f0 f1 : Field} {fuel : Nat} {cs : List Value} {x : DataW H × List MemPlace} (ht : P.underlying t = some (.struct #[f0, f1])) (h : DataW.trod enc P w base spare held fuel t cs = some x) :
    ∃ y0 y1 n, cs.length = P.cellsOf t ∧ DataW.trod enc P w base spare held n f0.type ((cs.drop f0.offset).take (P.cellsOf f0.type)) = some y0 ∧
      DataW.trod enc P w base spare held n f1.type ((cs.drop f1.offset).take (P.cellsOf f1.type)) = some y1 := by
  obtain ⟨xs, n, _, rfl, hl, hlen, hf⟩ := DataW.trod_struct ht h
  match xs, hlen with
  | [y0, y1], _ => exact ⟨y0, y1, n, hl, by simpa using hf 0 f0 rfl, by simpa using hf 1 f1 rfl⟩
theorem trod_struct4' {t : TypeId} {f0 f1 f2 f3 : Field} {fuel : Nat} {cs : List Value} {x : DataW H × List MemPlace} (ht : P.underlying t = some (.struct #[f0, f1, f2, f3])) (h : DataW.trod enc P w base spare held fuel t cs = some x) :
    ∃ y0 y1 y2 y3 n, cs.length = P.cellsOf t ∧ DataW.trod enc P w base spare held n f0.type ((cs.drop f0.offset).take (P.cellsOf f0.type)) = some y0 ∧
      DataW.trod enc P w base spare held n f1.type ((cs.drop f1.offset).take (P.cellsOf f1.type)) = some y1 ∧ DataW.trod enc P w base spare held n f2.type ((cs.drop f2.offset).take (P.cellsOf f2.type)) = some y2 ∧
      DataW.trod enc P w base spare held n f3.type ((cs.drop f3.offset).take (P.cellsOf f3.type)) = some y3 := by
  obtain ⟨xs, n, _, rfl, hl, hlen, hf⟩ := DataW.trod_struct ht h
  match xs, hlen with
  | [y0, y1, y2, y3], _ => exact ⟨y0, y1, y2, y3, n, hl, by simpa using hf 0 f0 rfl, by simpa using hf 1 f1 rfl, by simpa using hf 2 f2 rfl, by simpa using hf 3 f3 rfl⟩
end
theorem cells_int : Try.prog.cellsOf 3 = 1 := by kernel_rfl
theorem cells_str : Try.prog.cellsOf 9 = 1 := by kernel_rfl
theorem cells_ver : Try.prog.cellsOf 33 = 3 := by kernel_rfl
theorem cells_cell : Try.prog.cellsOf 35 = 4 := by kernel_rfl
theorem read_ver {H : Type} {enc : TypeId × Value → H} {w : World} {base : Nat} {spare : Nat → Bool} {held : Bool} (n : Nat) (cs : List Value) (y : DataW H × List MemPlace)
    (h : DataW.trod enc Try.prog w base spare held n 33 cs = some y) : ∃ (s : ByteArray) (a b : Int), cs = [.string s, .int .i64 a, .int .i64 b] := by
  obtain ⟨y0, y1, y2, m, _, hl, h0, h1, h2⟩ := Go.Deep.trod_struct3 Try.underlying33 h
  rw [cells_ver] at hl
  obtain ⟨c0, c1, c2, rfl⟩ := list3 hl
  simp [cells_int, cells_str] at h0 h1 h2
  obtain ⟨s, e0, _, _⟩ := DataW.trod_string Try.underlying9 h0
  obtain ⟨k, e1, _, _⟩ := DataW.trod_int Try.underlying3 h1
  obtain ⟨k', e2, _, _⟩ := DataW.trod_int Try.underlying3 h2
  simp at e0 e1 e2
  subst e0 e1 e2
  exact ⟨s, k, k', rfl⟩
theorem read_cell {H : Type} {enc : TypeId × Value → H} {w : World} {base : Nat} {spare : Nat → Bool} {held : Bool} (n : Nat) (cs : List Value) (y : DataW H × List MemPlace)
    (h : DataW.trod enc Try.prog w base spare held n 35 cs = some y) : ∃ m, cs = cellC m ∧ True := by
  obtain ⟨y0, y1, m, hl, h0, h1⟩ := trod_struct2' Try.underlying35 h
  rw [cells_cell] at hl
  obtain ⟨c0, c1, c2, c3, rfl⟩ := list4 hl
  simp [cells_ver, cells_str] at h0 h1
  obtain ⟨s, a, b, e0⟩ := read_ver _ _ _ h0
  obtain ⟨s', e1, _, _⟩ := DataW.trod_string Try.underlying9 h1
  simp at e0 e1
  obtain ⟨rfl, rfl, rfl⟩ := e0
  subst e1
  exact ⟨⟨s, a, b, s'⟩, rfl, trivial⟩
theorem read_int {H : Type} {enc : TypeId × Value → H} {w : World} {base : Nat} {spare : Nat → Bool} {held : Bool} (n : Nat) (cs : List Value) (y : DataW H × List MemPlace)
    (h : DataW.trod enc Try.prog w base spare held n 3 cs = some y) : ∃ m, cs = intC m ∧ True := by
  obtain ⟨k, e0, _, _⟩ := DataW.trod_int Try.underlying3 h
  exact ⟨k, e0, trivial⟩
theorem open_cells {H : Type} {enc : TypeId × Value → H} {w : World} {base : Nat} {spare : Nat → Bool} {held : Bool} {fuel : Nat} {v : Value} {x : DataW H × List MemPlace}
    (h : DataW.trod enc Try.prog w base spare held fuel 22 [v] = some x) : ∃ l, RdT w 4 cellC v l := by
  obtain ⟨l, hl, _⟩ := open_elems (good := fun _ => True) cellC_len Try.underlying22 cells_cell read_cell h
  exact ⟨l, hl⟩
theorem open_nums {H : Type} {enc : TypeId × Value → H} {w : World} {base : Nat} {spare : Nat → Bool} {held : Bool} {fuel : Nat} {v : Value} {x : DataW H × List MemPlace}
    (h : DataW.trod enc Try.prog w base spare held fuel 23 [v] = some x) : ∃ l, RdT w 1 intC v l := by
  obtain ⟨l, hl, _⟩ := open_elems (good := fun _ => True) intC_len Try.underlying23 cells_int read_int h
  exact ⟨l, hl⟩
end Go.Proofs.Yticplbnnmajcpaa
