/- Chapter 9's statement BatchCells, by the walk over a heap. -/
import Derived.Test.YtmgpfckkafcllaaBcCells
set_option linter.unusedVariables false
set_option linter.unusedSimpArgs false
namespace Go.Proofs.Ytmgpfckkafcllaa
open Go Go.RowKit Hv
set_option maxRecDepth 20000
set_option maxHeartbeats 8000000
theorem noId_ops (l : List OpD) : NoId (.sl (l.map opI)) := by simp [noId_sl, opI, noId_lit]
theorem BatchCells_h (seq : Int) (ops : List OpD) : Hv.ACalls Try.prog 6 [.lit (.int .i64 seq), .sl (ops.map opI)] (.lit (.bool true)) := by
  refine acallsC_of (rs := [.tmp 4]) ⟨[0, 1, 4, 5, 6, 7, 8, 9, 11, 43, 47, 62], [], [], [(10, [(0, [], []), (1, [], []), (2, [], []), (3, [], []), (4, [], []), (5, [], []), (6, [], []), (7, [], []), (8, [], []), (9, [], []), (10, [], []), (11, [], [5, 10, 4, 9, 3, 8, 0, 2, 6, 7, 1]), (12, [], [])])]⟩ TOk mixed Try.func6 rfl rfl (by kernel_rfl) (by kernel_rfl) rfl (by simp [noId_ops, noId_lit]) (.lit _) ?_
  simp only [push_cast, Nat.reduceBEq, Nat.reduceAdd, Nat.reduceEqDiff, reduceCtorEq, Nat.reduceLeDiff, Nat.reduceSub, Nat.reduceMul, Nat.reduceLT, Int.reduceEq, Int.reduceLT, Int.reduceLE, Int.reduceBEq, Int.reduceBNe, Int.reduceToNat, Int.reduceNeg, Int.reduceSub, Int.reduceAdd]
  refine callK batched_h ?_
  simp only [push_cast, Nat.reduceBEq, Nat.reduceAdd, Nat.reduceEqDiff, reduceCtorEq, Nat.reduceLeDiff, Nat.reduceSub, Nat.reduceMul, Nat.reduceLT, Int.reduceEq, Int.reduceLT, Int.reduceLE, Int.reduceBEq, Int.reduceBNe, Int.reduceToNat, Int.reduceNeg, Int.reduceSub, Int.reduceAdd]
  refine callH (DocCells_h seq ops) ?_
  rintro _ H1 n1 ⟨v1, rfl, g1, rfl, ha1, hb1, hg1, hk1⟩
  try dsimp only at ha1 hb1 hg1 hk1
  simp only [push_cast, Nat.reduceBEq, Nat.reduceAdd, Nat.reduceEqDiff, reduceCtorEq, Nat.reduceLeDiff, Nat.reduceSub, Nat.reduceMul, Nat.reduceLT, Int.reduceEq, Int.reduceLT, Int.reduceLE, Int.reduceBEq, Int.reduceBNe, Int.reduceToNat, Int.reduceNeg, Int.reduceSub, Int.reduceAdd]
  refine callH (Cells_h seq ops) ?_
  rintro _ H2 n2 ⟨v2, m2, rfl, g2, rfl, ha2, hb2, hg2, hk2⟩
  try dsimp only at ha2 hb2 hg2 hk2
  have hg1' := (hk2 g1 hb1).trans hg1
  obtain ⟨E, hE⟩ : ∃ E, checkB seq ops = E := ⟨_, rfl⟩
  obtain ⟨L, hL⟩ : ∃ L, (if checkB seq ops = 0 then docCells seq ops else []) = L := ⟨_, rfl⟩
  have hLl : L.length ≤ 200 ∧ (E = 0 → L.length = ops.length) ∧ sortedL L = true := by
    rw [← hL, ← hE]
    by_cases hc : checkB seq ops = 0
    · rw [if_pos hc, docCells_len]; exact ⟨(checkB_zero hc).2.2.1, fun _ => rfl, (docCells_spec seq ops).1⟩
    · rw [if_neg hc]; exact ⟨Nat.zero_le _, fun h => absurd h hc, rfl⟩
  rw [hL] at hg1' hg2
  rw [hE] at hL
  obtain ⟨hl1, hl2, hl3⟩ := hLl
  simp only [push_cast, Nat.reduceBEq, Nat.reduceAdd, Nat.reduceEqDiff, reduceCtorEq, Nat.reduceLeDiff, Nat.reduceSub, Nat.reduceMul, Nat.reduceLT, Int.reduceEq, Int.reduceLT, Int.reduceLE, Int.reduceBEq, Int.reduceBNe, Int.reduceToNat, Int.reduceNeg, Int.reduceSub, Int.reduceAdd, hL, hE]
  refine callH (CellsSame_h L hg1' hg2 (by omega)) ?_
  rintro _ H2 n2 ⟨rfl, rfl, rfl⟩
  clear hE hL hg1 hk1 hk2
  cases hc : E == 0 with
  | true =>
    have hE0 : E = 0 := by simpa using hc
    have hLo := hl2 hE0
    have hne : ((L.length : Int) != (ops.length : Int)) = false := by rw [hLo]; simp
    have hEE : (E != E) = false := by simp
    simp only [push_cast, Nat.reduceBEq, Nat.reduceAdd, Nat.reduceEqDiff, reduceCtorEq, Nat.reduceLeDiff, Nat.reduceSub, Nat.reduceMul, Nat.reduceLT, Int.reduceEq, Int.reduceLT, Int.reduceLE, Int.reduceBEq, Int.reduceBNe, Int.reduceToNat, Int.reduceNeg, Int.reduceSub, Int.reduceAdd, hc, hne, hEE]
    refine loopK (fun q s => ∃ (k : Nat), s = ⟨[(7, .rw g2 4 0 L.length), (9, .lit (.int .i64 (k : Int)))], H2, n2⟩ ∧ 1 ≤ k ∧ q = L.length - k) _ [7, 9] ⟨1, rfl, Nat.le_refl _, rfl⟩ ?_
    rintro q _ ⟨k, rfl, hk, rfl⟩
    by_cases hkL : k < L.length
    · have hkL' : (k : Int) < (L.length : Int) := by omega
      obtain ⟨j, rfl⟩ : ∃ j, k = j + 1 := ⟨k - 1, by omega⟩
      obtain ⟨x, hx⟩ : ∃ x, L[j]? = some x := ⟨_, List.getElem?_eq_getElem (by omega)⟩
      obtain ⟨y, hy⟩ : ∃ y, L[j + 1]? = some y := ⟨_, List.getElem?_eq_getElem (by omega)⟩
      have hxy : lessV x y = true := by
        obtain ⟨h1, rfl⟩ := List.getElem?_eq_some_iff.1 hx
        obtain ⟨h2, rfl⟩ := List.getElem?_eq_some_iff.1 hy
        exact (sorted_iff L).1 hl3 j h2
      have hw := wrap_nat0 (k := j + 1) (by omega)
      have hwj : IntKind.i64.wrap (((j + 1 : Nat) : Int) - 1) = (j : Int) := by rw [show ((j + 1 : Nat) : Int) - 1 = (j : Int) by omega]; exact IntWalk.i64_in _ (by omega)
      have hwj' : IntKind.i64.wrap ((j : Int) + 1 - 1) = (j : Int) := by rw [show (j : Int) + 1 - 1 = (j : Int) by omega]; exact IntWalk.i64_in _ (by omega)
      have hjL : j < L.length := by omega
      have hjL' : (j : Int) < (L.length : Int) := by omega
      have hj1 : (j : Int) + 1 < (L.length : Int) := by omega
      have hw' : IntKind.i64.wrap ((j : Int) + 1 + 1) = ((j + 1 + 1 : Nat) : Int) := hw
      have tn : ((j : Int) + 1).toNat = j + 1 := by omega
      have h0j : (0 : Int) ≤ (j : Int) + 1 := by omega
      cases m2 <;> (
        simp only [push_cast, Nat.reduceBEq, Nat.reduceAdd, Nat.reduceEqDiff, reduceCtorEq, Nat.reduceLeDiff, Nat.reduceSub, Nat.reduceMul, Nat.reduceLT, Int.reduceEq, Int.reduceLT, Int.reduceLE, Int.reduceBEq, Int.reduceBNe, Int.reduceToNat, Int.reduceNeg, Int.reduceSub, Int.reduceAdd, hkL, hkL', hj1, hwj, hwj', hjL, hjL', tn, h0j, hx, hy, hg2, cells_ble, cells_take, cellH]
        refine callD (less_h x y) ?_
        simp only [push_cast, Nat.reduceBEq, Nat.reduceAdd, Nat.reduceEqDiff, reduceCtorEq, Nat.reduceLeDiff, Nat.reduceSub, Nat.reduceMul, Nat.reduceLT, Int.reduceEq, Int.reduceLT, Int.reduceLE, Int.reduceBEq, Int.reduceBNe, Int.reduceToNat, Int.reduceNeg, Int.reduceSub, Int.reduceAdd, hxy, hw, hw']
        exact ⟨_, by omega, j + 1 + 1, rfl, by omega, rfl⟩)
    · simp only [push_cast, Nat.reduceBEq, Nat.reduceAdd, Nat.reduceEqDiff, reduceCtorEq, Nat.reduceLeDiff, Nat.reduceSub, Nat.reduceMul, Nat.reduceLT, Int.reduceEq, Int.reduceLT, Int.reduceLE, Int.reduceBEq, Int.reduceBNe, Int.reduceToNat, Int.reduceNeg, Int.reduceSub, Int.reduceAdd, hkL]
  | false =>
    have hEE : (E != E) = false := by simp
    simp only [push_cast, Nat.reduceBEq, Nat.reduceAdd, Nat.reduceEqDiff, reduceCtorEq, Nat.reduceLeDiff, Nat.reduceSub, Nat.reduceMul, Nat.reduceLT, Int.reduceEq, Int.reduceLT, Int.reduceLE, Int.reduceBEq, Int.reduceBNe, Int.reduceToNat, Int.reduceNeg, Int.reduceSub, Int.reduceAdd, hc, hEE]
    refine loopK (fun q s => ∃ (k : Nat), s = ⟨[(7, .rw g2 4 0 L.length), (9, .lit (.int .i64 (k : Int)))], H2, n2⟩ ∧ 1 ≤ k ∧ q = L.length - k) _ [7, 9] ⟨1, rfl, Nat.le_refl _, rfl⟩ ?_
    rintro q _ ⟨k, rfl, hk, rfl⟩
    by_cases hkL : k < L.length
    · have hkL' : (k : Int) < (L.length : Int) := by omega
      obtain ⟨j, rfl⟩ : ∃ j, k = j + 1 := ⟨k - 1, by omega⟩
      obtain ⟨x, hx⟩ : ∃ x, L[j]? = some x := ⟨_, List.getElem?_eq_getElem (by omega)⟩
      obtain ⟨y, hy⟩ : ∃ y, L[j + 1]? = some y := ⟨_, List.getElem?_eq_getElem (by omega)⟩
      have hxy : lessV x y = true := by
        obtain ⟨h1, rfl⟩ := List.getElem?_eq_some_iff.1 hx
        obtain ⟨h2, rfl⟩ := List.getElem?_eq_some_iff.1 hy
        exact (sorted_iff L).1 hl3 j h2
      have hw := wrap_nat0 (k := j + 1) (by omega)
      have hwj : IntKind.i64.wrap (((j + 1 : Nat) : Int) - 1) = (j : Int) := by rw [show ((j + 1 : Nat) : Int) - 1 = (j : Int) by omega]; exact IntWalk.i64_in _ (by omega)
      have hwj' : IntKind.i64.wrap ((j : Int) + 1 - 1) = (j : Int) := by rw [show (j : Int) + 1 - 1 = (j : Int) by omega]; exact IntWalk.i64_in _ (by omega)
      have hjL : j < L.length := by omega
      have hjL' : (j : Int) < (L.length : Int) := by omega
      have hj1 : (j : Int) + 1 < (L.length : Int) := by omega
      have hw' : IntKind.i64.wrap ((j : Int) + 1 + 1) = ((j + 1 + 1 : Nat) : Int) := hw
      have tn : ((j : Int) + 1).toNat = j + 1 := by omega
      have h0j : (0 : Int) ≤ (j : Int) + 1 := by omega
      cases m2 <;> (
        simp only [push_cast, Nat.reduceBEq, Nat.reduceAdd, Nat.reduceEqDiff, reduceCtorEq, Nat.reduceLeDiff, Nat.reduceSub, Nat.reduceMul, Nat.reduceLT, Int.reduceEq, Int.reduceLT, Int.reduceLE, Int.reduceBEq, Int.reduceBNe, Int.reduceToNat, Int.reduceNeg, Int.reduceSub, Int.reduceAdd, hkL, hkL', hj1, hwj, hwj', hjL, hjL', tn, h0j, hx, hy, hg2, cells_ble, cells_take, cellH]
        refine callD (less_h x y) ?_
        simp only [push_cast, Nat.reduceBEq, Nat.reduceAdd, Nat.reduceEqDiff, reduceCtorEq, Nat.reduceLeDiff, Nat.reduceSub, Nat.reduceMul, Nat.reduceLT, Int.reduceEq, Int.reduceLT, Int.reduceLE, Int.reduceBEq, Int.reduceBNe, Int.reduceToNat, Int.reduceNeg, Int.reduceSub, Int.reduceAdd, hxy, hw, hw']
        exact ⟨_, by omega, j + 1 + 1, rfl, by omega, rfl⟩)
    · simp only [push_cast, Nat.reduceBEq, Nat.reduceAdd, Nat.reduceEqDiff, reduceCtorEq, Nat.reduceLeDiff, Nat.reduceSub, Nat.reduceMul, Nat.reduceLT, Int.reduceEq, Int.reduceLT, Int.reduceLE, Int.reduceBEq, Int.reduceBNe, Int.reduceToNat, Int.reduceNeg, Int.reduceSub, Int.reduceAdd, hkL]
end Go.Proofs.Ytmgpfckkafcllaa
