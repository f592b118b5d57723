/- From what the rows of chapter 21 read to what the walks are told. -/
import Derived.Test.YtnaiaacgcjikiaaElemsG
import Derived.Test.YtnaiaacgcjikiaaTxFirst
set_option linter.unusedVariables false
set_option linter.unusedSimpArgs false
namespace Go.Proofs.Ytnaiaacgcjikiaa
open Go Go.RowKit Go.ChangeShapes Go.WideShapes
def intC (a : Int) : List Value := [.int .i64 a]
theorem intC_len (a : Int) : (intC a).length = 1 := rfl
def strCC (a : ByteArray) : List Value := [.string a]
theorem strCC_len (a : ByteArray) : (strCC a).length = 1 := rfl
theorem cells_int : Try.prog.cellsOf 3 = 1 := by kernel_rfl
theorem cells_str : Try.prog.cellsOf 9 = 1 := by kernel_rfl
theorem bytes_int : Try.prog.bytesOf 3 = 8 := by kernel_rfl
theorem cells_strs : Try.prog.cellsOf 32 = 1 := by kernel_rfl
/-- A slice of texts with its value. -/
structure RowV where
  l : List ByteArray
  v : Value
instance : Inhabited RowV := ⟨⟨[], undef⟩⟩
def rowC (x : RowV) : List Value := [x.v]
theorem rowC_len (x : RowV) : (rowC x).length = 1 := rfl
def RowGood (w : World) (x : RowV) : Prop := RdT w 1 strCC x.v x.l
section
variable {H : Type} {enc : TypeId × Value → H} {w : World} {base : Nat} {spare : Nat → Bool} {held : Bool}
theorem open_ints {fuel : Nat} {v : Value} {x : DataW H × List MemPlace} (hz : SizedD Try.prog 23 x.1)
    (h : DataW.trod enc Try.prog w base spare held fuel 23 [v] = some x) : ∃ l, RdT w 1 intC v l ∧ l.length * 8 ≤ 140737488355328 := by
  obtain ⟨l, hl, _, hs⟩ := open_elemsS (good := fun _ => True) intC_len Try.underlying23 cells_int (fun n cs y h _ => by
    obtain ⟨k, e0, _, _⟩ := DataW.trod_int Try.underlying3 h
    exact ⟨k, e0, trivial⟩) hz h
  rw [bytes_int] at hs
  exact ⟨l, hl, Nat.le_trans hs (by decide)⟩
theorem open_strs {fuel : Nat} {v : Value} {x : DataW H × List MemPlace}
    (h : DataW.trod enc Try.prog w base spare held fuel 32 [v] = some x) : ∃ l, RdT w 1 strCC v l := by
  obtain ⟨l, hl, _⟩ := open_elems (good := fun _ => True) strCC_len Try.underlying32 cells_str (fun n cs y h => by
    obtain ⟨k, e0, _, _⟩ := DataW.trod_string Try.underlying9 h
    exact ⟨k, e0, trivial⟩) h
  exact ⟨l, hl⟩
theorem open_rows {fuel : Nat} {v : Value} {x : DataW H × List MemPlace}
    (h : DataW.trod enc Try.prog w base spare held fuel 22 [v] = some x) : ∃ l, RdT w 1 rowC v l ∧ ∀ a ∈ l, RowGood w a :=
  open_elems (good := RowGood w) rowC_len Try.underlying22 cells_strs (fun n cs y h => by
    rcases Go.Deep.open_slice Try.underlying32 h with ⟨h0, _⟩ | ⟨a, len, cap, m, n', D, Pl, hcs, _⟩
    · subst h0
      obtain ⟨l, hl⟩ := open_strs h
      exact ⟨⟨l, _⟩, rfl, hl⟩
    · subst hcs
      obtain ⟨l, hl⟩ := open_strs h
      exact ⟨⟨l, _⟩, rfl, hl⟩) h
end
section
variable {w : World} {gb : Hv.Gb} {W : Nat → Nat → Prop} {v : Value}
theorem intC_one (a : Int) : ∀ u ∈ intC a, u.oneCell' = true := by
  intro u hu
  simp only [intC, List.mem_singleton] at hu
  subst hu; rfl
theorem strCC_one (a : ByteArray) : ∀ u ∈ strCC a, u.oneCell' = true := by
  intro u hu
  simp only [strCC, List.mem_singleton] at hu
  subst hu; rfl
theorem rep_ints {l : List Int} (hW : ∀ b o, ¬ W b o) (h : RdT w 1 intC v l) : Hv.Rep w W gb (.sl (l.map intI)) v :=
  Hv.rep_of_rd hW (fun _ => rfl) intC_len intC_one (by decide) h
theorem rep_strs {l : List ByteArray} (hW : ∀ b o, ¬ W b o) (h : RdT w 1 strCC v l) : Hv.Rep w W gb (.sl (l.map strI)) v :=
  Hv.rep_of_rd hW (fun _ => rfl) strCC_len strCC_one (by decide) h
theorem rep_row {x : RowV} (hW : ∀ b o, ¬ W b o) (h : RowGood w x) : (∀ u ∈ rowC x, u.oneCell' = true) ∧ ∀ (k : Nat) (a : Hv.AV) (u : Value), (rowI x.l)[k]? = some a → (rowC x)[k]? = some u → Hv.Rep w W gb a u := by
  refine ⟨fun u hu => ?_, Hv.reps_cons (rep_strs hW h) Hv.reps_nil⟩
  simp only [rowC, List.mem_cons, List.not_mem_nil, or_false] at hu
  subst hu
  exact Hv.RdT.one h
theorem rep_rows {l : List RowV} (hW : ∀ b o, ¬ W b o) (h : RdT w 1 rowC v l) (hg : ∀ a ∈ l, RowGood w a) : Hv.Rep w W gb (.sl ((l.map RowV.l).map rowI)) v := by
  rw [List.map_map]
  exact Hv.rep_of_rdN hW (fun _ => rfl) rowC_len (fun a ha => (rep_row (gb := gb) hW (hg a ha)).1) (fun a ha => (rep_row hW (hg a ha)).2) (by decide) h
end
end Go.Proofs.Ytnaiaacgcjikiaa
