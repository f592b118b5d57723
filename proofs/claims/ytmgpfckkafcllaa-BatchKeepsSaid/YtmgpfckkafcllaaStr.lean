/- The order of texts. Plain: no program in sight. -/
import Derived.Test.YtmgpfckkafcllaaKit
import Derived.Sort.Walk0
import Derived.Lib.Strings
import Derived.Lib.MinMaxS
namespace Go.Proofs.Ytmgpfckkafcllaa
open Go Go.RowKit

def slt (a b : ByteArray) : Bool := Op.bytesLess a.toList b.toList
def sle (a b : ByteArray) : Bool := Op.bytesLess a.toList b.toList || a.toList == b.toList
def seq' (a b : ByteArray) : Bool := a.toList == b.toList
theorem slt_iff (a b : ByteArray) : slt a b = true ↔ a.toList < b.toList := by unfold slt; rw [bytesLess_eq]; simp
theorem slt_no (a b : ByteArray) : slt a b = false ↔ b.toList ≤ a.toList := by
  rw [← List.not_lt, ← slt_iff]; simp
theorem sle_iff (a b : ByteArray) : sle a b = true ↔ a.toList ≤ b.toList := by
  unfold sle; rw [bytesLess_eq]
  simp only [Bool.or_eq_true, decide_eq_true_eq, beq_iff_eq]
  constructor
  · rintro (h | h)
    · exact List.not_lt.1 fun h' => List.lt_irrefl _ (List.lt_trans h h')
    · rw [h]; exact List.not_lt.1 (List.lt_irrefl _)
  · intro h
    by_cases h1 : a.toList < b.toList
    · exact .inl h1
    · exact .inr (List.le_antisymm h (List.not_lt.1 h1))
theorem sle_not (a b : ByteArray) : sle a b = !slt b a := by
  rw [Bool.eq_iff_iff, sle_iff]; simp only [Bool.not_eq_true', slt_no]
theorem sle_refl (a : ByteArray) : sle a a = true := (sle_iff _ _).2 (List.not_lt.1 (List.lt_irrefl _))
theorem sle_trans {a b c : ByteArray} (h : sle a b = true) (h' : sle b c = true) : sle a c = true := (sle_iff _ _).2 (List.le_trans ((sle_iff _ _).1 h) ((sle_iff _ _).1 h'))
theorem sle_total (a b : ByteArray) : sle a b = true ∨ sle b a = true := by rw [sle_iff, sle_iff]; exact List.le_total _ _
theorem slt_irrefl (a : ByteArray) : slt a a = false := by rw [slt_no]; exact List.not_lt.1 (List.lt_irrefl _)
theorem slt_trans {a b c : ByteArray} (h : slt a b = true) (h' : slt b c = true) : slt a c = true := by
  rw [slt_iff] at *; exact List.lt_trans h h'
theorem slt_tri (a b : ByteArray) : slt a b = true ∨ a.toList = b.toList ∨ slt b a = true := by
  rw [slt_iff, slt_iff]
  by_cases h1 : a.toList < b.toList
  · exact .inl h1
  · by_cases h2 : b.toList < a.toList
    · exact .inr (.inr h2)
    · exact .inr (.inl (List.le_antisymm (List.not_lt.1 h2) (List.not_lt.1 h1)))
theorem slt_asym {a b : ByteArray} (h : slt a b = true) : slt b a = false := by
  rcases h' : slt b a with _ | _
  · rfl
  · have := slt_trans h h'; rw [slt_irrefl] at this; cases this
theorem slt_ne {a b : ByteArray} (h : slt a b = true) : a.toList ≠ b.toList := fun e => by
  unfold slt at h; rw [e, bytesLess_eq] at h; simp at h; exact List.lt_irrefl _ h
theorem toList_inj {a b : ByteArray} (h : a.toList = b.toList) : a = b := by
  rw [Lib.toList_data, Lib.toList_data] at h
  cases a; cases b
  congr 1
  exact Array.toList_inj.1 h
theorem slt_cong {a b c d : ByteArray} (h1 : a.toList = b.toList) (h2 : c.toList = d.toList) : slt a c = slt b d := by unfold slt; rw [h1, h2]
end Go.Proofs.Ytmgpfckkafcllaa
