/- Chapter 9's Cells: the program's, and the law, by the walk over a heap. -/
import Derived.Test.YtmgpfckkafcllaaBcPl
set_option linter.unusedVariables false
set_option linter.unusedSimpArgs false
namespace Go.Proofs.Ytmgpfckkafcllaa
open Go Go.RowKit Hv
set_option maxRecDepth 20000
set_option maxHeartbeats 8000000
theorem Cells_h {H : Hp} {n : Nat} (seq : Int) (ops : List OpD) : HCalls Try.prog 18 [.lit (.int .i64 seq), .sl (ops.map opI)] H n fun r H' n' => ∃ v m, r = .tup [v, .lit (.int .i64 (checkB seq ops))] ∧ (checkB seq ops = 0 → m = true) ∧ NewCells m H n (if checkB seq ops = 0 then docCells seq ops else []) v H' n' := by
  refine hcallsC_of (rs := [.tmp 4, .tmp 5]) ⟨[0, 1, 4, 5, 6, 7, 8, 9, 14, 16, 17, 18, 19], [7, 36], [], [], [], []⟩ TOk mixed Try.func18 rfl rfl (by kernel_rfl) (by kernel_rfl) rfl ?_
  simp only [push_cast, Nat.reduceBEq, Nat.reduceAdd, Nat.reduceEqDiff, reduceCtorEq, Nat.reduceLeDiff, Nat.reduceSub, Nat.reduceMul, Nat.reduceLT, Int.reduceEq, Int.reduceLT, Int.reduceLE, Int.reduceBEq, Int.reduceBNe, Int.reduceToNat, Int.reduceNeg, Int.reduceSub, Int.reduceAdd]
  refine callK (Check_h seq ops) ?_
  by_cases hc : checkB seq ops = 0
  · have hc' : (checkB seq ops != 0) = false := by rw [hc]; rfl
    obtain ⟨⟨hs1, hs2, hs3⟩, _, hlen, _⟩ := checkB_zero hc
    simp only [push_cast, Nat.reduceBEq, Nat.reduceAdd, Nat.reduceEqDiff, reduceCtorEq, Nat.reduceLeDiff, Nat.reduceSub, Nat.reduceMul, Nat.reduceLT, Int.reduceEq, Int.reduceLT, Int.reduceLE, Int.reduceBEq, Int.reduceBNe, Int.reduceToNat, Int.reduceNeg, Int.reduceSub, Int.reduceAdd, hc']
    refine loopK (fun q s => ∃ (k g : Nat) (Hc : Hp) (nn : Nat), s = ⟨[(0, .lit (.int .i64 seq)), (1, .sl (ops.map opI)), (7, .rw g 4 0 k), (16, .sl (ops.map opI)), (17, .lit (.int .i64 (ops.length : Int))), (18, .lit (.int .i64 (k : Int)))], Hc, nn⟩ ∧ k ≤ ops.length ∧ q = ops.length - k ∧ Hc g = some (.row true 48 (((cellsB seq ops).take k).map cellH)) ∧ n ≤ g ∧ g < nn ∧ ∀ j, j < n → Hc j = H j) _ [0, 1, 7, 16, 17, 18] ⟨0, n + 1, _, _, rfl, Nat.zero_le _, rfl, upd_same _ _ _, by omega, Nat.lt_succ_self _, fun j hj => (upd_other (by omega)).trans (upd_other (by omega))⟩ ?_
    rintro q _ ⟨k, g, Hc, nn, rfl, hk, rfl, hg, hg1, hg2, hh⟩
    by_cases hkl : k < ops.length
    · have hkl' : (k : Int) < (ops.length : Int) := by omega
      obtain ⟨o, ho⟩ : ∃ o, ops[k]? = some o := ⟨_, List.getElem?_eq_getElem hkl⟩
      have hw := wrap_nat0 (k := k) (by omega)
      have hsw : IntKind.i64.wrap (seq + (k : Int)) = seq + k := IntWalk.i64_in _ (by omega)
      have hLl : ((cellsB seq ops).take k).length = k := by rw [List.length_take, cellsB_len]; omega
      have hbk : Nat.ble k ((cellsB seq ops).take k).length = true := by rw [hLl]; exact Nat.ble_self_eq_true k
      have hbk2 : (((cellsB seq ops).take k).map cellH).take k = ((cellsB seq ops).take k).map cellH := List.take_of_length_le (by rw [List.length_map, hLl]; exact Nat.le_refl _)
      have q1 : (k + 1) * 48 ≤ 140737488355328 := by omega
      have e1 : (nn == g) = false := nb (by omega)
      have e2 : (nn + 1 == g) = false := nb (by omega)
      have e3 : (nn + 1 + 1 == g) = false := nb (by omega)
      simp only [push_cast, Nat.reduceBEq, Nat.reduceAdd, Nat.reduceEqDiff, reduceCtorEq, Nat.reduceLeDiff, Nat.reduceSub, Nat.reduceMul, Nat.reduceLT, Int.reduceEq, Int.reduceLT, Int.reduceLE, Int.reduceBEq, Int.reduceBNe, Int.reduceToNat, Int.reduceNeg, Int.reduceSub, Int.reduceAdd, hkl, hkl', ho, hw, hsw, opI, hg, e1, e2, e3, hLl, hbk, hbk2, q1, List.length_append]
      refine ⟨_, by omega, k + 1, nn + 1 + 1, _, _, rfl, by omega, rfl, ?_, by omega, Nat.lt_succ_self _, fun j hj => ?_⟩
      · rw [upd_same, List.take_add_one, cellsB_at ho, List.map_append]; rfl
      · repeat rw [upd_other (by omega)]
        exact hh j hj
    · simp only [push_cast, Nat.reduceBEq, Nat.reduceAdd, Nat.reduceEqDiff, reduceCtorEq, Nat.reduceLeDiff, Nat.reduceSub, Nat.reduceMul, Nat.reduceLT, Int.reduceEq, Int.reduceLT, Int.reduceLE, Int.reduceBEq, Int.reduceBNe, Int.reduceToNat, Int.reduceNeg, Int.reduceSub, Int.reduceAdd, hkl]
      obtain rfl : k = ops.length := by omega
      have hall : (cellsB seq ops).take ops.length = cellsB seq ops := List.take_of_length_le (by rw [cellsB_len]; exact Nat.le_refl _)
      rw [hall] at hg
      have hs := sortC_h (n := nn) hg (by rw [cellsB_len]; omega)
      rw [cellsB_len] at hs
      refine callH hs ?_
      rintro _ _ _ ⟨rfl, rfl, l', hp, hpw, rfl⟩
      have hl' := docCells_eq hp hpw
      subst hl'
      simp only [push_cast, Nat.reduceBEq, Nat.reduceAdd, Nat.reduceEqDiff, reduceCtorEq, Nat.reduceLeDiff, Nat.reduceSub, Nat.reduceMul, Nat.reduceLT, Int.reduceEq, Int.reduceLT, Int.reduceLE, Int.reduceBEq, Int.reduceBNe, Int.reduceToNat, Int.reduceNeg, Int.reduceSub, Int.reduceAdd, hc]
      exact ⟨_, true, rfl, fun _ => rfl, g, by rw [docCells_len], hg1, hg2, upd_same _ _ _, fun j hj => (upd_other (by omega)).trans (hh j hj)⟩
  · have hc' : (checkB seq ops != 0) = true := by simpa using hc
    simp only [push_cast, Nat.reduceBEq, Nat.reduceAdd, Nat.reduceEqDiff, reduceCtorEq, Nat.reduceLeDiff, Nat.reduceSub, Nat.reduceMul, Nat.reduceLT, Int.reduceEq, Int.reduceLT, Int.reduceLE, Int.reduceBEq, Int.reduceBNe, Int.reduceToNat, Int.reduceNeg, Int.reduceSub, Int.reduceAdd, hc', hc]
    refine ⟨_, false, rfl, ?_, n + 1, rfl, by omega, Nat.lt_succ_self _, upd_same _ _ _, fun j hj => (upd_other (by omega)).trans (upd_other (by omega))⟩
    exact fun h => h.elim
/-- Two rows of the same cells. -/
theorem CellsSame_h {H : Hp} {n g g' : Nat} {m m' : Bool} (l : List CellD) (hg : H g = some (.row m 48 (l.map cellH))) (hg' : H g' = some (.row m' 48 (l.map cellH))) (hl : l.length ≤ 1000000) :
    HCalls Try.prog 19 [.rw g 4 0 l.length, .rw g' 4 0 l.length] H n fun r H' n' => r = .lit (.bool true) ∧ H' = H ∧ n' = n := by
  refine hcallsC_of (rs := [.tmp 4]) ⟨[0, 1, 4, 5, 10, 14, 25], [], [], [(6, [(0, [], []), (1, [], []), (2, [], []), (3, [], []), (4, [], []), (5, [], []), (6, [], []), (7, [], []), (8, [], [])])], [], []⟩ TOk mixed Try.func19 rfl rfl (by kernel_rfl) (by kernel_rfl) rfl ?_
  have hne : ((l.length : Int) != (l.length : Int)) = false := by simp
  simp only [push_cast, Nat.reduceBEq, Nat.reduceAdd, Nat.reduceEqDiff, reduceCtorEq, Nat.reduceLeDiff, Nat.reduceSub, Nat.reduceMul, Nat.reduceLT, Int.reduceEq, Int.reduceLT, Int.reduceLE, Int.reduceBEq, Int.reduceBNe, Int.reduceToNat, Int.reduceNeg, Int.reduceSub, Int.reduceAdd, hne]
  refine loopK (fun q s => ∃ (k : Nat), k ≤ l.length ∧ q = l.length - k ∧ s = ⟨[(0, .rw g 4 0 l.length), (1, .rw g' 4 0 l.length), (5, .lit (.int .i64 (k : Int)))], H, n⟩) _ [0, 1, 5] ⟨0, by omega, rfl, rfl⟩ ?_
  rintro q _ ⟨k, hk, rfl, rfl⟩
  by_cases h : k < l.length
  · obtain ⟨x, hx⟩ : ∃ x, l[k]? = some x := ⟨_, List.getElem?_eq_getElem h⟩
    have hw := wrap_nat0 (k := k) (by omega)
    have h' : (k : Int) < (l.length : Int) := by omega
    cases m <;> cases m' <;> (
      simp only [push_cast, Nat.reduceBEq, Nat.reduceAdd, Nat.reduceEqDiff, reduceCtorEq, Nat.reduceLeDiff, Nat.reduceSub, Nat.reduceMul, Nat.reduceLT, Int.reduceEq, Int.reduceLT, Int.reduceLE, Int.reduceBEq, Int.reduceBNe, Int.reduceToNat, Int.reduceNeg, Int.reduceSub, Int.reduceAdd, h, h', hx, cellH, hw, cells_ble, cells_take, hg, hg']
      exact ⟨_, by omega, k + 1, by omega, rfl, rfl⟩)
  · simp only [push_cast, Nat.reduceBEq, Nat.reduceAdd, Nat.reduceEqDiff, reduceCtorEq, Nat.reduceLeDiff, Nat.reduceSub, Nat.reduceMul, Nat.reduceLT, Int.reduceEq, Int.reduceLT, Int.reduceLE, Int.reduceBEq, Int.reduceBNe, Int.reduceToNat, Int.reduceNeg, Int.reduceSub, Int.reduceAdd, h]
end Go.Proofs.Ytmgpfckkafcllaa
