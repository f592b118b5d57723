/- Keys in their order: texts, ints; as the shelf's sorted rows have them. Plain: no program in sight. -/
import Derived.Test.YtndojmpgadbefaaKit
import Derived.Test.YtndojmpgadbefaaStr
import Derived.Test.YtndojmpgadbefaaHvMap
import Derived.Sort.KeysCollected
import Derived.Lib.SlKeysI
set_option linter.unusedVariables false
namespace Go.Proofs.Ytndojmpgadbefaa
open Go Go.RowKit Go.Maps Hv
def sortK (l : List ByteArray) : List ByteArray := (l.map fun s => s.data.toList).mergeSort (fun x y => decide (x ≤ y)) |>.map fun l => ⟨l.toArray⟩
theorem sortK_mem {l : List ByteArray} {s : ByteArray} : s ∈ sortK l ↔ s ∈ l := by
  unfold sortK
  rw [List.mem_map]
  constructor
  · rintro ⟨x, hx, rfl⟩
    obtain ⟨y, hy, rfl⟩ := List.mem_map.1 (List.mem_mergeSort.1 hx)
    exact hy
  · intro h
    exact ⟨s.data.toList, List.mem_mergeSort.2 (List.mem_map.2 ⟨s, h, rfl⟩), rfl⟩
theorem sortK_len (l : List ByteArray) : (sortK l).length = l.length := by
  unfold sortK; rw [List.length_map, List.length_mergeSort, List.length_map]
theorem sortK_rise {l : List ByteArray} (h : l.Nodup) : (sortK l).Pairwise fun a b => slt a b = true := by
  unfold sortK
  refine List.pairwise_map.2 ?_
  have hs := List.pairwise_mergeSort (le := fun x y : List UInt8 => decide (x ≤ y)) (fun a b c h1 h2 => decide_eq_true (List.le_trans (of_decide_eq_true h1) (of_decide_eq_true h2))) (fun a b => by
    rcases List.le_total a b with h | h
    · rw [decide_eq_true h]; rfl
    · rw [decide_eq_true h, Bool.or_true]) (l.map fun s => s.data.toList)
  have hn : ((l.map fun s => s.data.toList).mergeSort fun x y => decide (x ≤ y)).Nodup := by
    refine (List.mergeSort_perm _ _).nodup_iff.2 ?_
    exact List.pairwise_map.2 (h.imp fun hne e => hne (by cases ‹ByteArray›; cases ‹ByteArray›; congr 1; exact Array.toList_inj.1 e))
  refine (hs.and hn).imp fun {a b} h => ?_
  rw [slt_iff, Lib.toList_data, Lib.toList_data]
  show a < b
  have h1 : a ≤ b := of_decide_eq_true h.1
  by_cases h2 : a < b
  · exact h2
  · exact absurd (List.le_antisymm h1 (List.not_lt.1 h2)) h.2
def strA (s : ByteArray) : AV := .lit (.string s)
def strC (s : ByteArray) : List Value := [.string s]
def strI (s : ByteArray) : List AV := [.lit (.string s)]
theorem keyOk_strA : KeyOk strA := keyOk_str
theorem sortK_enc (l : List ByteArray) : (sortK l).flatMap strC = ((l.map fun s => s.data.toList).mergeSort fun x y => decide (x ≤ y)).map encStr := by
  unfold sortK
  rw [List.flatMap_map]
  induction ((l.map fun s => s.data.toList).mergeSort fun x y => decide (x ≤ y)) with
  | nil => rfl
  | cons a l ih => rw [List.flatMap_cons, ih]; rfl
def anyR : Value → Option (DataW Unit × List MemPlace) := fun _ => some (.nil, [])
def intA (n : Int) : AV := .lit (.int .i64 n)
def intCC (n : Int) : List Value := [.int .i64 n]
def intI (n : Int) : List AV := [.lit (.int .i64 n)]
theorem keyOk_intA : KeyOk intA := keyOk_int
def sortI (l : List Int) : List Int := l.mergeSort fun x y => decide (x ≤ y)
theorem sortI_len (l : List Int) : (sortI l).length = l.length := by unfold sortI; exact List.length_mergeSort _
theorem sortI_mem {l : List Int} {x : Int} : x ∈ sortI l ↔ x ∈ l := by unfold sortI; exact List.mem_mergeSort
theorem sortI_rise {l : List Int} (h : l.Nodup) : (sortI l).Pairwise fun a b => a < b := by
  unfold sortI
  have h1 : (l.mergeSort fun x y => decide (x ≤ y)).Pairwise fun a b => decide (a ≤ b) = true := List.pairwise_mergeSort (fun a b c h1 h2 => by simp only [decide_eq_true_eq] at *; omega) (fun a b => by simp only [Bool.or_eq_true, decide_eq_true_eq]; omega) l
  have h2 : (l.mergeSort fun x y => decide (x ≤ y)).Nodup := (List.mergeSort_perm l _).nodup_iff.2 h
  exact (h1.and h2).imp fun ⟨h3, h4⟩ => by simp only [decide_eq_true_eq] at h3; omega
theorem sortI_enc (l : List Int) : (sortI l).flatMap intCC = (l.mergeSort fun x y => decide (x ≤ y)).map encZ := by
  unfold sortI
  induction (l.mergeSort fun x y => decide (x ≤ y)) with
  | nil => rfl
  | cons a l ih => rw [List.flatMap_cons, ih]; rfl
theorem wf_i64 {n : Int} (hs : -9223372036854775808 ≤ n ∧ n ≤ 9223372036854775807) : (Lit.int .i64 n).wf = true := by
  simp [Lit.wf, IntKind.signed, IntKind.bits, IntKind.max, IntKind.min]
  omega
end Go.Proofs.Ytndojmpgadbefaa
