/- A row of bytes as a text, over a heap of data (plain). -/
import Derived.Test.YtheanmfdfoefoaaEncH
set_option linter.unusedVariables false
namespace Go.Proofs.Ytheanmfdfoefoaa
open Go Go.RowKit Hv
theorem bytesOf_byL : ∀ (l : List UInt8), bytesOf (byL l) = some (l.map fun b => (b.toNat : Int))
  | [] => rfl
  | b :: r => by
    show (match bytesOf (byL r) with | some l => some ((b.toNat : Int) :: l) | none => none) = _
    rw [bytesOf_byL r]; rfl
theorem byL_take (k : Nat) (l : List UInt8) : (byL l).take k = byL (l.take k) := List.map_take.symm
theorem strOf_byL (l : List UInt8) : strOfNums (l.map fun b => (b.toNat : Int)) = ⟨l.toArray⟩ := by
  have h : (l.map fun b => (b.toNat : Int)).map (fun n : Int => UInt8.ofNat n.toNat) = l := by
    rw [List.map_map]
    conv => rhs; rw [← List.map_id l]
    refine List.map_congr_left fun b _ => ?_
    show UInt8.ofNat ((b.toNat : Int).toNat) = b
    rw [Int.toNat_natCast, UInt8.ofNat_toNat]
  unfold strOfNums
  rw [h]
/-- A text is its bytes. -/
theorem str_data (s : ByteArray) : (⟨s.data.toList.toArray⟩ : ByteArray) = s := rfl
theorem str_refl (a : ByteArray) : (a == a) = true := by
  cases a with
  | mk d => show (d == d) = true; exact beq_self_eq_true d
end Go.Proofs.Ytheanmfdfoefoaa
