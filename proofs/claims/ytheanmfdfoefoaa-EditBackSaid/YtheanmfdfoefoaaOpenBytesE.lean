/- From what the row reads to what the walks are told: bytes. -/
import Derived.Test.YtheanmfdfoefoaaEdElems
import Derived.Test.YtheanmfdfoefoaaReadE
namespace Go.Proofs.Ytheanmfdfoefoaa
open Go Go.RowKit Go.ChangeShapes Go.WideShapes
theorem cells_byte : Try.prog.cellsOf 5 = 1 := by kernel_rfl
theorem read_byte {H : Type} {enc : TypeId × Value → H} {w : World} {base : Nat} {spare : Nat → Bool} {held : Bool} (n : Nat) (cs : List Value) (y : DataW H × List MemPlace)
    (h : DataW.trod enc Try.prog w base spare held n 5 cs = some y) : ∃ b, cs = byC b ∧ True := by
  obtain ⟨k, e0, _, hw⟩ := DataW.trod_int Try.underlying5 h
  have hk : 0 ≤ k ∧ k ≤ 255 := by
    simp only [Lit.wf, IntKind.min, IntKind.max, Bool.and_eq_true, decide_eq_true_eq] at hw
    exact ⟨of_decide_eq_true hw.1, of_decide_eq_true hw.2⟩
  refine ⟨UInt8.ofNat k.toNat, ?_, trivial⟩
  rw [e0]
  unfold byC
  rw [UInt8.toNat_ofNat']
  congr 2
  omega
theorem open_bytes {H : Type} {enc : TypeId × Value → H} {w : World} {base : Nat} {spare : Nat → Bool} {held : Bool} {fuel : Nat} {v : Value} {x : DataW H × List MemPlace}
    (h : DataW.trod enc Try.prog w base spare held fuel 103 [v] = some x) : ∃ b, RdB w v b := by
  obtain ⟨l, hl, _⟩ := open_elems (good := fun _ => True) byC_len Try.underlying103 cells_byte read_byte h
  refine ⟨l, ?_⟩
  unfold RdT at hl
  rw [bc_flat] at hl
  exact hl
end Go.Proofs.Ytheanmfdfoefoaa
