/- From what the row reads to what the walks are told: a slice of things, a thing by value. -/
import Derived.Test.YtmgpfckkafcllaaBatch
import Derived.Deep.Slices
import Derived.Deep.Strs
import Derived.Lib.SmallJoins
import Derived.ProofKit
namespace Go.Proofs.Ytmgpfckkafcllaa
open Go Go.RowKit Go.ChangeShapes Go.WideShapes

theorem list3 {α : Type} {l : List α} (h : l.length = 3) : ∃ a b c, l = [a, b, c] := by
  match l, h with
  | [a, b, c], _ => exact ⟨a, b, c, rfl⟩
theorem list4 {α : Type} {l : List α} (h : l.length = 4) : ∃ a b c d, l = [a, b, c, d] := by
  match l, h with
  | [a, b, c, d], _ => exact ⟨a, b, c, d, rfl⟩
section
variable {H : Type} {enc : TypeId × Value → H} {P : Program} {w : World} {base : Nat} {spare : Nat → Bool} {held : Bool}
theorem open_elems {α : Type} [Inhabited α] {sz : Nat} {f : α → List Value} {good : α → Prop} (hf : ∀ a, (f a).length = sz) {t e : TypeId} {fuel : Nat} {v : Value} {x : DataW H × List MemPlace}
    (ht : P.underlying t = some (.slice e)) (hC : P.cellsOf e = sz) (hread : ∀ (n : Nat) (cs : List Value) (y : DataW H × List MemPlace), DataW.trod enc P w base spare held n e cs = some y → ∃ a, cs = f a ∧ good a)
    (h : DataW.trod enc P w base spare held fuel t [v] = some x) : ∃ l : List α, RdT w sz f v l ∧ ∀ a ∈ l, good a := by
  rcases Go.Deep.open_slice ht h with ⟨h0, _⟩ | ⟨a, len, cap, m, n, D, Pl, hcs, _, hl, hm, hmm, _, hi⟩
  · simp only [List.cons.injEq, and_true] at h0
    subst h0
    exact ⟨[], ⟨none, 0, rfl, Nat.le_refl _, Nat.zero_le _, by simp, fun h => absurd h (by simp)⟩, fun _ h => by simp at h⟩
  · simp only [List.cons.injEq, and_true] at hcs
    subst hcs
    have hlm : len ≤ m := by rw [hmm]; split <;> omega
    obtain ⟨g, hg⟩ := Go.Deep.choose_lt (n := len) (p := fun i a' => good a' ∧ ∀ j u, (f a')[j]? = some u → w.cell? (a.add (i * sz + j)) = some u) (fun i hil => by
      obtain ⟨cs', hc, ht'⟩ := hi i (by omega)
      obtain ⟨b, rfl, hb⟩ := hread n cs' _ ht'
      rw [hC] at hc
      obtain ⟨_, _, hat⟩ := World.cells?_some hc
      refine ⟨b, hb, fun j u hu => ?_⟩
      have hj : j < sz := by
        have := (List.getElem?_eq_some_iff.1 hu).1
        rwa [hf] at this
      have := hat j hj
      rw [add_add'] at this
      rw [this, hu])
    refine ⟨(List.range len).map g, ⟨some a, cap, by simp, by simpa using hl, hm, ?_, fun _ => ⟨a, rfl, fun j u hu => ?_⟩⟩, ?_⟩
    · rw [flatMap_len hf]
    · have hjl : j < ((List.range len).map g).length * sz := by
        have := (List.getElem?_eq_some_iff.1 hu).1
        rwa [flatMap_len hf] at this
      rcases Nat.eq_zero_or_pos sz with h0 | h0
      · subst h0; simp at hjl
      · have hq : j / sz < ((List.range len).map g).length := (Nat.div_lt_iff_lt_mul h0).2 hjl
        have hr : j % sz < sz := Nat.mod_lt _ h0
        have e := flatMap_get hf ((List.range len).map g) (j / sz) (j % sz) hq hr
        have ej : j / sz * sz + j % sz = j := by rw [Nat.mul_comm]; exact Nat.div_add_mod j sz
        rw [ej, hu] at e
        have := (hg (j / sz) (by simpa using hq)).2 (j % sz) u (by rw [e]; simp)
        rwa [ej] at this
    · intro x hx
      obtain ⟨i, hi', rfl⟩ := List.mem_map.1 hx
      exact (hg i (List.mem_range.1 hi')).1
end

/-- A text is no longer than the form's own bound. -/
def goodOp (o : OpD) : Prop := o.key.size ≤ maxLen ∧ o.val.size ≤ maxLen
theorem cells_op0 : Try.prog.cellsOf 3 = 1 := by kernel_rfl
theorem cells_op1 : Try.prog.cellsOf 9 = 1 := by kernel_rfl
theorem cells_op : Try.prog.cellsOf 24 = 3 := by kernel_rfl
instance : Inhabited OpD := ⟨⟨0, ⟨#[]⟩, ⟨#[]⟩⟩⟩
theorem read_op {H : Type} {enc : TypeId × Value → H} {w : World} {base : Nat} {spare : Nat → Bool} {held : Bool} (n : Nat) (cs : List Value) (y : DataW H × List MemPlace)
    (h : DataW.trod enc Try.prog w base spare held n 24 cs = some y) : ∃ o, cs = opC o ∧ goodOp o := by
  obtain ⟨y0, y1, y2, m, _, hl, h0, h1, h2⟩ := Go.Deep.trod_struct3 Try.underlying24 h
  rw [cells_op] at hl
  obtain ⟨c0, c1, c2, rfl⟩ := list3 hl
  simp [cells_op0, cells_op1] at h0 h1 h2
  obtain ⟨k, e0, _, _⟩ := DataW.trod_int Try.underlying3 h0
  obtain ⟨s, e1, _, hs⟩ := DataW.trod_string Try.underlying9 h1
  obtain ⟨s', e2, _, hs'⟩ := DataW.trod_string Try.underlying9 h2
  simp at e0 e1 e2
  subst e0 e1 e2
  exact ⟨⟨k, s, s'⟩, rfl, hs, hs'⟩
#print axioms read_op
#print axioms open_elems
end Go.Proofs.Ytmgpfckkafcllaa
