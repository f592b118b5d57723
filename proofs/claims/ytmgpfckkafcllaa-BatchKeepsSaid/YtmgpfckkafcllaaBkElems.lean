/- From what the row of BatchKeeps reads to what its walk is told: how many changes there may be. -/
import Derived.Test.YtmgpfckkafcllaaBtElems
set_option linter.unusedVariables false
namespace Go.Proofs.Ytmgpfckkafcllaa
open Go Go.RowKit Go.ChangeShapes Go.WideShapes
theorem bytes_op : Try.prog.bytesOf 24 = 40 := by kernel_rfl
section
variable {H : Type} {enc : TypeId × Value → H} {w : World} {base : Nat} {spare : Nat → Bool} {held : Bool}
theorem open_opsL {fuel : Nat} {v : Value} {x : DataW H × List MemPlace} (hz : SizedD Try.prog 22 x.1)
    (h : DataW.trod enc Try.prog w base spare held fuel 22 [v] = some x) : ∃ l, RdT w 3 opC v l ∧ (∀ o ∈ l, o.key.size ≤ 140737488355328) ∧ l.length * 40 ≤ 140737488355328 := by
  obtain ⟨l, hl, hg, hb⟩ := open_elemsS (good := fun o : OpD => o.key.size ≤ 140737488355328) opC_len Try.underlying22 cells_op read_op hz h
  rw [bytes_op] at hb
  exact ⟨l, hl, hg, Nat.le_trans hb (by decide)⟩
end
end Go.Proofs.Ytmgpfckkafcllaa
