/- From what the rows of chapter 17 read to what the walks are told: slices of integers. -/
import Derived.Test.YtheanmfdfoefoaaEdElems
import Derived.Test.YtheanmfdfoefoaaEdFiles
set_option linter.unusedVariables false
namespace Go.Proofs.Ytheanmfdfoefoaa
open Go Go.RowKit Hv
def intC (a : Int) : List Value := [.int .i64 a]
abbrev intA := intH
theorem intC_len (a : Int) : (intC a).length = 1 := rfl
theorem intA_lit (a : Int) : intA a = (intC a).map .lit := rfl
theorem intC_one (a : Int) : ∀ u ∈ intC a, u.oneCell' = true := by
  intro u hu
  simp only [intC, List.mem_singleton] at hu
  subst hu; rfl
theorem read_int {H : Type} {enc : TypeId × Value → H} {w : World} {base : Nat} {spare : Nat → Bool} {held : Bool} (n : Nat) (cs : List Value) (y : DataW H × List MemPlace)
    (h : DataW.trod enc Try.prog w base spare held n 3 cs = some y) : ∃ m, cs = intC m ∧ True := by
  obtain ⟨k, e0, _, _⟩ := DataW.trod_int Try.underlying3 h
  exact ⟨k, e0, trivial⟩
theorem open_nums {H : Type} {enc : TypeId × Value → H} {w : World} {base : Nat} {spare : Nat → Bool} {held : Bool} {fuel : Nat} {v : Value} {x : DataW H × List MemPlace}
    (h : DataW.trod enc Try.prog w base spare held fuel 74 [v] = some x) : ∃ l, RdT w 1 intC v l := by
  obtain ⟨l, hl, _⟩ := open_elems (good := fun _ => True) intC_len Try.underlying74 cells_int read_int h
  exact ⟨l, hl⟩
end Go.Proofs.Ytheanmfdfoefoaa
