/- Chapter 17's statements: the small law in front of each, by the walk over a heap. -/
import Derived.Test.YtheanmfdfoefoaaEdTo
import Derived.Test.YtheanmfdfoefoaaEdFiles
import Derived.Test.YtheanmfdfoefoaaEncW
set_option linter.unusedVariables false
namespace Go.Proofs.Ytheanmfdfoefoaa
open Go Go.RowKit Hv
set_option linter.unusedSimpArgs false
set_option maxRecDepth 20000
set_option maxHeartbeats 8000000

theorem Ints_refl (l : List Int) (hl : l.length ≤ 1000000) : Hv.ACalls Try.prog 43 [.sl (l.map intH), .sl (l.map intH)] (.lit (.bool true)) := by
  refine acallsC_of (rs := [.tmp 4]) ⟨[0, 1, 4, 5, 10, 14, 25], [], [], [(6, [(0, [], []), (1, [], []), (2, [], []), (3, [], []), (4, [], []), (5, [], []), (6, [], []), (7, [], []), (8, [], [])])], [], []⟩ TOk mixed Try.func43 rfl rfl (by kernel_rfl) (by kernel_rfl) rfl (nid2 (noId_ints l) (noId_ints l)) (.lit _) ?_
  have hne : ((l.length : Int) != (l.length : Int)) = false := by simp
  simp only [push_cast, Nat.reduceBEq, Nat.reduceAdd, Nat.reduceEqDiff, reduceCtorEq, Nat.reduceLeDiff, Nat.reduceSub, Nat.reduceMul, Nat.reduceLT, Int.reduceEq, Int.reduceLT, Int.reduceLE, Int.reduceBEq, Int.reduceBNe, Int.reduceToNat, Int.reduceNeg, Int.reduceSub, Int.reduceAdd, hne]
  refine loopK (fun n s => ∃ (k : Nat), k ≤ l.length ∧ n = l.length - k ∧ s = ⟨[(0, .sl (l.map intH)), (1, .sl (l.map intH)), (5, .lit (.int .i64 (k : Int)))], fun _ => none, 0⟩) _ [0, 1, 5] ⟨0, by omega, rfl, rfl⟩ ?_
  rintro n _ ⟨k, hk, rfl, rfl⟩
  by_cases h : k < l.length
  · obtain ⟨x, hx⟩ : ∃ x, l[k]? = some x := ⟨_, List.getElem?_eq_getElem h⟩
    have hw := wrap_nat (k := k) (by omega)
    simp only [push_cast, Nat.reduceBEq, Nat.reduceAdd, Nat.reduceEqDiff, reduceCtorEq, Nat.reduceLeDiff, Nat.reduceSub, Nat.reduceMul, Nat.reduceLT, Int.reduceEq, Int.reduceLT, Int.reduceLE, Int.reduceBEq, Int.reduceBNe, Int.reduceToNat, Int.reduceNeg, Int.reduceSub, Int.reduceAdd, h, hx, intH, hw]
    exact ⟨_, by omega, k + 1, by omega, rfl, rfl⟩
  · simp only [push_cast, Nat.reduceBEq, Nat.reduceAdd, Nat.reduceEqDiff, reduceCtorEq, Nat.reduceLeDiff, Nat.reduceSub, Nat.reduceMul, Nat.reduceLT, Int.reduceEq, Int.reduceLT, Int.reduceLE, Int.reduceBEq, Int.reduceBNe, Int.reduceToNat, Int.reduceNeg, Int.reduceSub, Int.reduceAdd, h]
def tbA : AddD := ⟨1, ⟨7, 1, ⟨#[97]⟩, ⟨#[99]⟩⟩⟩
def tbB : AddD := ⟨1, ⟨8, 1, ⟨#[98]⟩, ⟨#[100]⟩⟩⟩
def edOne : EdD := ⟨-1, -1, -1, [], [tbA]⟩
def edB : EdD := ⟨-1, -1, -1, [], [tbB]⟩
def edN : EdD := ⟨-1, -1, -1, [], []⟩
def stOne : StD := (docApply emptyS edOne).1
theorem stOne_ok : (docApply emptyS edOne).2 = 0 := by kernel_rfl
theorem stOne_av : stH stOne = .agg [.lit (.int .i64 1), .lit (.int .i64 1), .lit (.int .i64 0), .sl [], .sl [[.lit (.int .i64 7), .lit (.int .i64 1), .lit (.string ⟨#[97]⟩), .lit (.string ⟨#[99]⟩)]], .sl [], .sl []] := by kernel_rfl
theorem stOne_wf : Wf0 stOne := docApply_wf0 empty_wf0 stOne_ok
theorem stOne_len : ∀ i, i < 4 → (stOne.lv i).length ≤ 1 := by
  intro i hi
  obtain rfl | rfl | rfl | rfl : i = 0 ∨ i = 1 ∨ i = 2 ∨ i = 3 := by omega
  · exact of_decide_eq_true (by kernel_rfl)
  · exact of_decide_eq_true (by kernel_rfl)
  · exact of_decide_eq_true (by kernel_rfl)
  · exact of_decide_eq_true (by kernel_rfl)
theorem stOne_files : (allS stOne).map (·.file) = [7] := by kernel_rfl
theorem edits_h : Hv.ACalls Try.prog 34 [] (.lit (.bool true)) := by
  refine acallsC_of (rs := [.tmp 0]) ⟨[0, 1, 2, 4, 5, 6], [], [], [], [], []⟩ TOk mixed Try.func34 rfl rfl (by kernel_rfl) (by kernel_rfl) rfl (by simp) (.lit _) ?_
  have h1 : Hv.ACalls Try.prog 31 [stH emptyS, edH edOne] (.tup [stH stOne, .lit (.int .i64 0)]) := by
    have := apply_h emptyS edOne empty_wf0 (fun i _ => Nat.zero_le _)
    rw [stOne_ok] at this
    exact this
  rw [stOne_av] at h1
  have h2 : Hv.ACalls Try.prog 31 [stH stOne, edH edB] (.tup [stH noS, .lit (.int .i64 2)]) := by
    have := apply_h stOne edB stOne_wf (fun i hi => Nat.le_trans (stOne_len i hi) (by omega))
    have e1 : (docApply stOne edB).2 = 2 := by kernel_rfl
    have e2 : stH (docApply stOne edB).1 = stH noS := by kernel_rfl
    rw [e1, e2] at this
    exact this
  rw [stOne_av] at h2
  have h3 : Hv.ACalls Try.prog 49 [edH edN] (.tup [.sl [[.lit (.int .u8 1)], [.lit (.int .u8 1)], [.lit (.int .u8 1)], [.lit (.int .u8 0)], [.lit (.int .u8 0)]], .lit (.int .i64 0)]) := by
    have := encode_yes edN (by kernel_rfl)
    have e1 : byL (edE edN) = [[.lit (.int .u8 1)], [.lit (.int .u8 1)], [.lit (.int .u8 1)], [.lit (.int .u8 0)], [.lit (.int .u8 0)]] := by kernel_rfl
    rw [e1] at this
    exact this
  have h4 : Hv.ACalls Try.prog 32 [stH stOne] (.sl [[.lit (.int .i64 7)]]) := by
    have := files_h stOne (by rw [stOne_files]; decide) (fun i hi => Nat.le_trans (stOne_len i hi) (by omega))
    have e1 : filesS stOne = [7] := by unfold filesS sortZ; rw [stOne_files]; exact List.mergeSort_singleton _
    rw [e1] at this
    exact this
  rw [stOne_av] at h4
  have h5 : Hv.ACalls Try.prog 43 [.sl [[.lit (.int .i64 7)]], .sl [[.lit (.int .i64 7)]]] (.lit (.bool true)) := Ints_refl [7] (by decide)
  simp only [push_cast, Nat.reduceBEq, Nat.reduceAdd, Nat.reduceEqDiff, reduceCtorEq, Nat.reduceLeDiff, Nat.reduceSub, Nat.reduceMul, Nat.reduceLT, Int.reduceEq, Int.reduceLT, Int.reduceLE, Int.reduceBEq, Int.reduceBNe, Int.reduceToNat, Int.reduceNeg, Int.reduceSub, Int.reduceAdd]
  refine callK h1 ?_
  simp only [push_cast, Nat.reduceBEq, Nat.reduceAdd, Nat.reduceEqDiff, reduceCtorEq, Nat.reduceLeDiff, Nat.reduceSub, Nat.reduceMul, Nat.reduceLT, Int.reduceEq, Int.reduceLT, Int.reduceLE, Int.reduceBEq, Int.reduceBNe, Int.reduceToNat, Int.reduceNeg, Int.reduceSub, Int.reduceAdd]
  refine callK h2 ?_
  simp only [push_cast, Nat.reduceBEq, Nat.reduceAdd, Nat.reduceEqDiff, reduceCtorEq, Nat.reduceLeDiff, Nat.reduceSub, Nat.reduceMul, Nat.reduceLT, Int.reduceEq, Int.reduceLT, Int.reduceLE, Int.reduceBEq, Int.reduceBNe, Int.reduceToNat, Int.reduceNeg, Int.reduceSub, Int.reduceAdd, stH, noS]
  refine callK h3 ?_
  have hb : bytesOf [[AV.lit (.int .u8 1)], [.lit (.int .u8 1)], [.lit (.int .u8 1)], [.lit (.int .u8 0)], [.lit (.int .u8 0)]] = some [1, 1, 1, 0, 0] := by kernel_rfl
  have hs : strOfNums [1, 1, 1, 0, 0] = ⟨#[1, 1, 1, 0, 0]⟩ := by kernel_rfl
  have hq : ((⟨#[1, 1, 1, 0, 0]⟩ : ByteArray) == ⟨#[1, 1, 1, 0, 0]⟩) = true := by kernel_rfl
  simp only [push_cast, Nat.reduceBEq, Nat.reduceAdd, Nat.reduceEqDiff, reduceCtorEq, Nat.reduceLeDiff, Nat.reduceSub, Nat.reduceMul, Nat.reduceLT, Int.reduceEq, Int.reduceLT, Int.reduceLE, Int.reduceBEq, Int.reduceBNe, Int.reduceToNat, Int.reduceNeg, Int.reduceSub, Int.reduceAdd, hb, hs, hq]
  refine callK h4 ?_
  simp only [push_cast, Nat.reduceBEq, Nat.reduceAdd, Nat.reduceEqDiff, reduceCtorEq, Nat.reduceLeDiff, Nat.reduceSub, Nat.reduceMul, Nat.reduceLT, Int.reduceEq, Int.reduceLT, Int.reduceLE, Int.reduceBEq, Int.reduceBNe, Int.reduceToNat, Int.reduceNeg, Int.reduceSub, Int.reduceAdd]
  refine callK h5 ?_
  simp only [push_cast, Nat.reduceBEq, Nat.reduceAdd, Nat.reduceEqDiff, reduceCtorEq, Nat.reduceLeDiff, Nat.reduceSub, Nat.reduceMul, Nat.reduceLT, Int.reduceEq, Int.reduceLT, Int.reduceLE, Int.reduceBEq, Int.reduceBNe, Int.reduceToNat, Int.reduceNeg, Int.reduceSub, Int.reduceAdd]
end Go.Proofs.Ytheanmfdfoefoaa
