/- From what the rows of chapter 9 read to what the walks are told. -/
import Derived.Test.YtmgpfckkafcllaaElemsG
import Derived.Test.YtmgpfckkafcllaaBtOps
set_option linter.unusedVariables false
set_option linter.unusedSimpArgs false
namespace Go.Proofs.Ytmgpfckkafcllaa
open Go Go.RowKit Go.ChangeShapes Go.WideShapes
theorem cells_op : Try.prog.cellsOf 24 = 3 := by kernel_rfl
theorem cells_int : Try.prog.cellsOf 3 = 1 := by kernel_rfl
theorem cells_str : Try.prog.cellsOf 9 = 1 := by kernel_rfl
instance inhOpE : Inhabited OpD := ⟨⟨0, ⟨#[]⟩, ⟨#[]⟩⟩⟩
section
variable {H : Type} {enc : TypeId × Value → H} {w : World} {base : Nat} {spare : Nat → Bool} {held : Bool}
theorem sized_str {t : TypeId} {y : DataW H × List MemPlace} {k : ByteArray} (hz : SizedD Try.prog t y.1) (e : y = (.lit (.string k.data.toList), [])) : k.size ≤ 140737488355328 := by
  rw [e] at hz
  exact Nat.le_trans (hz k.data.toList.length (by simp [DataW.weights])) (by decide)
theorem read_op (n : Nat) (cs : List Value) (y : DataW H × List MemPlace)
    (h : DataW.trod enc Try.prog w base spare held n 24 cs = some y) (hz : SizedD Try.prog 24 y.1) : ∃ m, cs = opC m ∧ m.key.size ≤ 140737488355328 := by
  obtain ⟨xs, m, _, rfl, hl, hlen, hf⟩ := DataW.trod_struct Try.underlying24 h
  rw [cells_op] at hl
  obtain ⟨c0, c1, c2, rfl⟩ := list3 hl
  obtain ⟨y0, y1, y2, rfl⟩ := list3 hlen
  have hz1 := hz.field Try.underlying24 (j := 1) rfl rfl
  have h0 := hf 0 _ rfl
  have h1 := hf 1 _ rfl
  have h2 := hf 2 _ rfl
  simp [cells_int, cells_str] at h0 h1 h2
  obtain ⟨k0, e0, _, _⟩ := DataW.trod_int Try.underlying3 h0
  obtain ⟨k1, e1, q1, _⟩ := DataW.trod_string Try.underlying9 h1
  obtain ⟨k2, e2, _, _⟩ := DataW.trod_string Try.underlying9 h2
  simp at e0 e1 e2
  subst e0 e1 e2
  exact ⟨⟨k0, k1, k2⟩, rfl, sized_str hz1 q1⟩
theorem open_opsS {fuel : Nat} {v : Value} {x : DataW H × List MemPlace} (hz : SizedD Try.prog 22 x.1)
    (h : DataW.trod enc Try.prog w base spare held fuel 22 [v] = some x) : ∃ l, RdT w 3 opC v l ∧ ∀ o ∈ l, o.key.size ≤ 140737488355328 := by
  obtain ⟨l, hl, hg, _⟩ := open_elemsS (good := fun o : OpD => o.key.size ≤ 140737488355328) opC_len Try.underlying22 cells_op read_op hz h
  exact ⟨l, hl, hg⟩
end
section
variable {w : World} {gb : Hv.Gb} {W : Nat → Nat → Prop} {v : Value}
theorem rep_ops {l : List OpD} (hW : ∀ b o, ¬ W b o) (h : RdT w 3 opC v l) : Hv.Rep w W gb (.sl (l.map opI)) v :=
  Hv.rep_of_rd hW (fun _ => rfl) opC_len (fun a u hu => by simp only [opC, List.mem_cons, List.not_mem_nil, or_false] at hu; rcases hu with rfl | rfl | rfl <;> rfl) (by decide) h
end
end Go.Proofs.Ytmgpfckkafcllaa
