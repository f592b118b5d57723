/- Chapter 17's statements: their own functions, by the walk over a heap. -/
import Derived.Test.YtheanmfdfoefoaaEdAll
set_option linter.unusedVariables false
namespace Go.Proofs.Ytheanmfdfoefoaa
open Go Go.RowKit Hv
set_option linter.unusedSimpArgs false
set_option maxRecDepth 20000
set_option maxHeartbeats 8000000

theorem meta_h (m : MetaD) : Hv.ACalls Try.prog 65 [.agg (metaH m)] (.agg (metaH m)) := by
  refine acallsC_of (rs := [.cell 2 56]) ⟨[0, 1, 2], [], [], [], [], []⟩ TOk mixed Try.func65 rfl rfl (by kernel_rfl) (by kernel_rfl) rfl (by simp [noId_agg, metaH, noId_lit]) (by simp [noId_agg, metaH, noId_lit]) ?_
  simp only [push_cast, Nat.reduceBEq, Nat.reduceAdd, Nat.reduceEqDiff, reduceCtorEq, Nat.reduceLeDiff, Nat.reduceSub, Nat.reduceMul, Nat.reduceLT, Int.reduceEq, Int.reduceLT, Int.reduceLE, Int.reduceBEq, Int.reduceBNe, Int.reduceToNat, Int.reduceNeg, Int.reduceSub, Int.reduceAdd, metaH]
theorem metas_h (l : List MetaD) (hl : l.length ≤ 1000000) : Hv.ACalls Try.prog 45 [.sl (l.map metaH)] (.sl (l.map metaH)) := by
  refine acallsC_of (rs := [.tmp 2]) ⟨[0, 2, 3, 4, 8], [], [], [], [], []⟩ TOk mixed Try.func45 rfl rfl (by kernel_rfl) (by kernel_rfl) rfl (nid1 (noId_metas l)) (noId_metas l) ?_
  simp only [push_cast, Nat.reduceBEq, Nat.reduceAdd, Nat.reduceEqDiff, reduceCtorEq, Nat.reduceLeDiff, Nat.reduceSub, Nat.reduceMul, Nat.reduceLT, Int.reduceEq, Int.reduceLT, Int.reduceLE, Int.reduceBEq, Int.reduceBNe, Int.reduceToNat, Int.reduceNeg, Int.reduceSub, Int.reduceAdd]
  refine loopK (fun n s => ∃ (k id nx : Nat) (H : Hp), k ≤ l.length ∧ id < nx ∧ H id = some (.row false 56 ((l.take k).map metaH)) ∧ n = l.length - k ∧ s = ⟨[(0, .sl (l.map metaH)), (3, .rw id 4 0 k), (4, .lit (.int .i64 (k : Int)))], H, nx⟩) _ [0, 3, 4] ⟨0, 1, 2, _, by omega, by omega, rfl, rfl, rfl⟩ ?_
  rintro n _ ⟨k, id, nx, H, hk, hid, hrow, rfl, rfl⟩
  by_cases h : k < l.length
  · obtain ⟨x, hx⟩ : ∃ x, l[k]? = some x := ⟨_, List.getElem?_eq_getElem h⟩
    have hw := wrap_nat (k := k) (by omega)
    have hlen : ((l.take k).map metaH).length = k := by rw [List.length_map, List.length_take]; omega
    have hb : (k + 1) * 48 ≤ 140737488355328 := by omega
    have hne : (nx == id) = false := by rw [← Bool.not_eq_true, beq_iff_eq]; omega
    have hm := meta_h x
    unfold metaH at hm
    simp only [push_cast, Nat.reduceBEq, Nat.reduceAdd, Nat.reduceEqDiff, reduceCtorEq, Nat.reduceLeDiff, Nat.reduceSub, Nat.reduceMul, Nat.reduceLT, Int.reduceEq, Int.reduceLT, Int.reduceLE, Int.reduceBEq, Int.reduceBNe, Int.reduceToNat, Int.reduceNeg, Int.reduceSub, Int.reduceAdd, h, hx, metaH]
    refine callK hm ?_
    have hlen' : (List.map (fun m : MetaD => [AV.lit (.int .i64 m.file), AV.lit (.int .i64 m.size), AV.lit (.string m.first), AV.lit (.string m.last)]) (l.take k)).length = k := hlen
    simp only [push_cast, Nat.reduceBEq, Nat.reduceAdd, Nat.reduceEqDiff, reduceCtorEq, Nat.reduceLeDiff, Nat.reduceSub, Nat.reduceMul, Nat.reduceLT, Int.reduceEq, Int.reduceLT, Int.reduceLE, Int.reduceBEq, Int.reduceBNe, Int.reduceToNat, Int.reduceNeg, Int.reduceSub, Int.reduceAdd, hrow, hlen, hb, hne, hw, nbq1_0 nx]
    refine ⟨_, by omega, k + 1, nx + 1, nx + 1 + 1, _, by omega, by omega, ?_, rfl, rfl⟩
    rw [upd_same, List.take_add_one, hx, List.map_append]; rfl
  · obtain rfl : k = l.length := by omega
    rw [List.take_length] at hrow
    simp only [push_cast, Nat.reduceBEq, Nat.reduceAdd, Nat.reduceEqDiff, reduceCtorEq, Nat.reduceLeDiff, Nat.reduceSub, Nat.reduceMul, Nat.reduceLT, Int.reduceEq, Int.reduceLT, Int.reduceLE, Int.reduceBEq, Int.reduceBNe, Int.reduceToNat, Int.reduceNeg, Int.reduceSub, Int.reduceAdd, h, hrow]
def lvUp (s : StD) (i k : Nat) : AV := if k < i then .sl ((s.lv k).map metaH) else .lit (.slice none 0 0)
theorem lvUp_lt {s : StD} {i k : Nat} (h : k < i) : lvUp s i k = .sl ((s.lv k).map metaH) := if_pos h
theorem lvUp_ge {s : StD} {i k : Nat} (h : ¬ k < i) : lvUp s i k = .lit (.slice none 0 0) := if_neg h
theorem state_h (s : StD) (hl : ∀ i, i < 4 → (s.lv i).length ≤ 1000000) : Hv.ACalls Try.prog 37 [stH s] (stH s) := by
  refine acallsC_of (rs := [.cell 2 28]) ⟨[0, 1, 2, 3, 4, 13], [], [], [], [], []⟩ TOk mixed Try.func37 rfl rfl (by kernel_rfl) (by kernel_rfl) rfl (nid1 (noId_st s)) (noId_st s) ?_
  simp only [push_cast, Nat.reduceBEq, Nat.reduceAdd, Nat.reduceEqDiff, reduceCtorEq, Nat.reduceLeDiff, Nat.reduceSub, Nat.reduceMul, Nat.reduceLT, Int.reduceEq, Int.reduceLT, Int.reduceLE, Int.reduceBEq, Int.reduceBNe, Int.reduceToNat, Int.reduceNeg, Int.reduceSub, Int.reduceAdd, stH]
  refine loopK (fun n x => ∃ (i : Nat) (H : Hp), i ≤ 4 ∧ H 0 = some (.cells [.lit (.int .i64 s.log), .lit (.int .i64 s.next), .lit (.int .i64 s.seq), .sl ((s.lv 0).map metaH), .sl ((s.lv 1).map metaH), .sl ((s.lv 2).map metaH), .sl ((s.lv 3).map metaH)]) ∧
    H 1 = some (.cells [.lit (.int .i64 0), .lit (.int .i64 0), .lit (.int .i64 0), .lit (.slice none 0 0), .lit (.slice none 0 0), .lit (.slice none 0 0), .lit (.slice none 0 0)]) ∧
    H 2 = some (.cells [.lit (.int .i64 s.log), .lit (.int .i64 s.next), .lit (.int .i64 s.seq), lvUp s i 0, lvUp s i 1, lvUp s i 2, lvUp s i 3]) ∧ n = 4 - i ∧ x = ⟨[(1, .ptr 0 0), (2, .ptr 1 0), (3, .ptr 2 0), (4, .lit (.int .i64 (i : Int)))], H, 3⟩) _ [1, 2, 3, 4] ⟨0, _, by omega, rfl, rfl, rfl, rfl, rfl⟩ ?_
  rintro n _ ⟨i, H, hi, h0, h1, h2, rfl, rfl⟩
  obtain rfl | rfl | rfl | rfl | rfl : i = 0 ∨ i = 1 ∨ i = 2 ∨ i = 3 ∨ i = 4 := by omega
  case inr.inr.inr.inr =>
    rw [lvUp_lt (by omega), lvUp_lt (by omega), lvUp_lt (by omega), lvUp_lt (by omega)] at h2
    simp only [push_cast, Nat.reduceBEq, Nat.reduceAdd, Nat.reduceEqDiff, reduceCtorEq, Nat.reduceLeDiff, Nat.reduceSub, Nat.reduceMul, Nat.reduceLT, Int.reduceEq, Int.reduceLT, Int.reduceLE, Int.reduceBEq, Int.reduceBNe, Int.reduceToNat, Int.reduceNeg, Int.reduceSub, Int.reduceAdd, h0, h1, h2]
  · simp only [push_cast, Nat.reduceBEq, Nat.reduceAdd, Nat.reduceEqDiff, reduceCtorEq, Nat.reduceLeDiff, Nat.reduceSub, Nat.reduceMul, Nat.reduceLT, Int.reduceEq, Int.reduceLT, Int.reduceLE, Int.reduceBEq, Int.reduceBNe, Int.reduceToNat, Int.reduceNeg, Int.reduceSub, Int.reduceAdd, h0, h1, h2]
    refine callK (metas_h _ (hl 0 (by omega))) ?_
    have hw : IntKind.i64.wrap 1 = 1 := by decide
    simp only [push_cast, Nat.reduceBEq, Nat.reduceAdd, Nat.reduceEqDiff, reduceCtorEq, Nat.reduceLeDiff, Nat.reduceSub, Nat.reduceMul, Nat.reduceLT, Int.reduceEq, Int.reduceLT, Int.reduceLE, Int.reduceBEq, Int.reduceBNe, Int.reduceToNat, Int.reduceNeg, Int.reduceSub, Int.reduceAdd, h0, h1, h2, hw]
    exact ⟨_, by omega, 1, upd H 2 _, by omega, h0, h1, rfl, rfl, rfl⟩
  · simp only [push_cast, Nat.reduceBEq, Nat.reduceAdd, Nat.reduceEqDiff, reduceCtorEq, Nat.reduceLeDiff, Nat.reduceSub, Nat.reduceMul, Nat.reduceLT, Int.reduceEq, Int.reduceLT, Int.reduceLE, Int.reduceBEq, Int.reduceBNe, Int.reduceToNat, Int.reduceNeg, Int.reduceSub, Int.reduceAdd, h0, h1, h2]
    refine callK (metas_h _ (hl 1 (by omega))) ?_
    have hw : IntKind.i64.wrap 2 = 2 := by decide
    simp only [push_cast, Nat.reduceBEq, Nat.reduceAdd, Nat.reduceEqDiff, reduceCtorEq, Nat.reduceLeDiff, Nat.reduceSub, Nat.reduceMul, Nat.reduceLT, Int.reduceEq, Int.reduceLT, Int.reduceLE, Int.reduceBEq, Int.reduceBNe, Int.reduceToNat, Int.reduceNeg, Int.reduceSub, Int.reduceAdd, h0, h1, h2, hw]
    exact ⟨_, by omega, 2, upd H 2 _, by omega, h0, h1, rfl, rfl, rfl⟩
  · simp only [push_cast, Nat.reduceBEq, Nat.reduceAdd, Nat.reduceEqDiff, reduceCtorEq, Nat.reduceLeDiff, Nat.reduceSub, Nat.reduceMul, Nat.reduceLT, Int.reduceEq, Int.reduceLT, Int.reduceLE, Int.reduceBEq, Int.reduceBNe, Int.reduceToNat, Int.reduceNeg, Int.reduceSub, Int.reduceAdd, h0, h1, h2]
    refine callK (metas_h _ (hl 2 (by omega))) ?_
    have hw : IntKind.i64.wrap 3 = 3 := by decide
    simp only [push_cast, Nat.reduceBEq, Nat.reduceAdd, Nat.reduceEqDiff, reduceCtorEq, Nat.reduceLeDiff, Nat.reduceSub, Nat.reduceMul, Nat.reduceLT, Int.reduceEq, Int.reduceLT, Int.reduceLE, Int.reduceBEq, Int.reduceBNe, Int.reduceToNat, Int.reduceNeg, Int.reduceSub, Int.reduceAdd, h0, h1, h2, hw]
    exact ⟨_, by omega, 3, upd H 2 _, by omega, h0, h1, rfl, rfl, rfl⟩
  · simp only [push_cast, Nat.reduceBEq, Nat.reduceAdd, Nat.reduceEqDiff, reduceCtorEq, Nat.reduceLeDiff, Nat.reduceSub, Nat.reduceMul, Nat.reduceLT, Int.reduceEq, Int.reduceLT, Int.reduceLE, Int.reduceBEq, Int.reduceBNe, Int.reduceToNat, Int.reduceNeg, Int.reduceSub, Int.reduceAdd, h0, h1, h2]
    refine callK (metas_h _ (hl 3 (by omega))) ?_
    have hw : IntKind.i64.wrap 4 = 4 := by decide
    simp only [push_cast, Nat.reduceBEq, Nat.reduceAdd, Nat.reduceEqDiff, reduceCtorEq, Nat.reduceLeDiff, Nat.reduceSub, Nat.reduceMul, Nat.reduceLT, Int.reduceEq, Int.reduceLT, Int.reduceLE, Int.reduceBEq, Int.reduceBNe, Int.reduceToNat, Int.reduceNeg, Int.reduceSub, Int.reduceAdd, h0, h1, h2, hw]
    exact ⟨_, by omega, 4, upd H 2 _, by omega, h0, h1, rfl, rfl, rfl⟩
theorem Metas_refl (l : List MetaD) (hl : l.length ≤ 1000000) : Hv.ACalls Try.prog 22 [.sl (l.map metaH), .sl (l.map metaH)] (.lit (.bool true)) := by
  refine acallsC_of (rs := [.tmp 4]) ⟨[0, 1, 4, 5, 10, 14, 25], [], [], [(6, [(0, [], []), (1, [], []), (2, [], []), (3, [], []), (4, [], []), (5, [], []), (6, [], []), (7, [], []), (8, [], [])])], [], []⟩ TOk mixed Try.func22 rfl rfl (by kernel_rfl) (by kernel_rfl) rfl (nid2 (noId_metas l) (noId_metas l)) (.lit _) ?_
  have hne : ((l.length : Int) != (l.length : Int)) = false := by simp
  simp only [push_cast, Nat.reduceBEq, Nat.reduceAdd, Nat.reduceEqDiff, reduceCtorEq, Nat.reduceLeDiff, Nat.reduceSub, Nat.reduceMul, Nat.reduceLT, Int.reduceEq, Int.reduceLT, Int.reduceLE, Int.reduceBEq, Int.reduceBNe, Int.reduceToNat, Int.reduceNeg, Int.reduceSub, Int.reduceAdd, hne]
  refine loopK (fun n s => ∃ (k : Nat), k ≤ l.length ∧ n = l.length - k ∧ s = ⟨[(0, .sl (l.map metaH)), (1, .sl (l.map metaH)), (5, .lit (.int .i64 (k : Int)))], fun _ => none, 0⟩) _ [0, 1, 5] ⟨0, by omega, rfl, rfl⟩ ?_
  rintro n _ ⟨k, hk, rfl, rfl⟩
  by_cases h : k < l.length
  · obtain ⟨x, hx⟩ : ∃ x, l[k]? = some x := ⟨_, List.getElem?_eq_getElem h⟩
    have hw := wrap_nat (k := k) (by omega)
    simp only [push_cast, Nat.reduceBEq, Nat.reduceAdd, Nat.reduceEqDiff, reduceCtorEq, Nat.reduceLeDiff, Nat.reduceSub, Nat.reduceMul, Nat.reduceLT, Int.reduceEq, Int.reduceLT, Int.reduceLE, Int.reduceBEq, Int.reduceBNe, Int.reduceToNat, Int.reduceNeg, Int.reduceSub, Int.reduceAdd, h, hx, metaH, hw]
    exact ⟨_, by omega, k + 1, by omega, rfl, rfl⟩
  · simp only [push_cast, Nat.reduceBEq, Nat.reduceAdd, Nat.reduceEqDiff, reduceCtorEq, Nat.reduceLeDiff, Nat.reduceSub, Nat.reduceMul, Nat.reduceLT, Int.reduceEq, Int.reduceLT, Int.reduceLE, Int.reduceBEq, Int.reduceBNe, Int.reduceToNat, Int.reduceNeg, Int.reduceSub, Int.reduceAdd, h]
end Go.Proofs.Ytheanmfdfoefoaa
