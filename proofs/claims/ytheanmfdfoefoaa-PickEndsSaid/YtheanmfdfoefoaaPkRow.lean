/- From what chapter 19's rows read to what the walks are told: tables. -/
import Derived.Test.YtheanmfdfoefoaaEdElems
import Derived.Lib.SmallJoins
set_option linter.unusedVariables false
namespace Go.Proofs.Ytheanmfdfoefoaa
open Go Go.RowKit Hv
theorem open_metas {H : Type} {enc : TypeId × Value → H} {w : World} {base : Nat} {spare : Nat → Bool} {held : Bool} {fuel : Nat} {v : Value} {x : DataW H × List MemPlace}
    (h : DataW.trod enc Try.prog w base spare held fuel 25 [v] = some x) : ∃ l, RdT w 4 metaC v l := by
  obtain ⟨l, hl, _⟩ := open_elems (good := fun _ => True) metaC_len Try.underlying25 cells_rmeta read_rmeta h
  exact ⟨l, hl⟩
theorem rep_metas {w : World} {W : Nat → Nat → Prop} {gb : Gb} {v : Value} {l : List MetaD} (hW : ∀ b o, ¬ W b o) (h : RdT w 4 metaC v l) : Hv.Rep w W gb (.sl (l.map metaH)) v :=
  rep_of_rd hW (fun _ => rfl) metaC_len (fun m u hu => by
    simp only [metaC, List.mem_cons, List.not_mem_nil, or_false] at hu
    rcases hu with rfl | rfl | rfl | rfl <;> rfl) (by decide) h
end Go.Proofs.Ytheanmfdfoefoaa
