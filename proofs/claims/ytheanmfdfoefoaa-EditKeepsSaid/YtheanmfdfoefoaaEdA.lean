/- Edit: the tests of places, tables, edits. -/
import Derived.Test.YtheanmfdfoefoaaHvTab
import Derived.Test.YtheanmfdfoefoaaEdD
namespace Go.Proofs.Ytheanmfdfoefoaa
open Go Go.RowKit Hv
set_option linter.unusedSimpArgs false
set_option maxRecDepth 20000
set_option maxHeartbeats 4000000

theorem within_h (n lo hi : Int) : Hv.ACalls Try.prog 90 [.lit (.int .i64 n), .lit (.int .i64 lo), .lit (.int .i64 hi)] (.lit (.bool (withinB n lo hi))) := by
  refine acallsC_of (rs := [.tmp 6]) ⟨[0, 1, 2, 6], [], [], [], [], []⟩ TOk mixed Try.func90 rfl rfl (by kernel_rfl) (by kernel_rfl) rfl (by simp [noId_lit]) (by simp [noId_lit]) ?_
  by_cases h1 : lo ≤ n
  · simp only [push_cast, Nat.reduceBEq, Nat.reduceAdd, Nat.reduceEqDiff, reduceCtorEq, Nat.reduceLeDiff, Nat.reduceSub, Nat.reduceMul, Nat.reduceLT, Int.reduceEq, Int.reduceLT, Int.reduceLE, Int.reduceBEq, Int.reduceBNe, Int.reduceToNat, Int.reduceNeg, Int.reduceSub, Int.reduceAdd, h1, ge_iff_le, withinB]
  · simp only [push_cast, Nat.reduceBEq, Nat.reduceAdd, Nat.reduceEqDiff, reduceCtorEq, Nat.reduceLeDiff, Nat.reduceSub, Nat.reduceMul, Nat.reduceLT, Int.reduceEq, Int.reduceLT, Int.reduceLE, Int.reduceBEq, Int.reduceBNe, Int.reduceToNat, Int.reduceNeg, Int.reduceSub, Int.reduceAdd, h1, ge_iff_le, withinB]
theorem isKey_h (s : ByteArray) : Hv.ACalls Try.prog 113 [.lit (.string s)] (.lit (.bool (keyB s))) := by
  refine acallsC_of (rs := [.tmp 2]) ⟨[0, 2], [], [], [], [], []⟩ TOk mixed Try.func113 rfl rfl (by kernel_rfl) (by kernel_rfl) rfl (by simp [noId_lit]) (by simp [noId_lit]) ?_
  simp only [push_cast, Nat.reduceBEq, Nat.reduceAdd, Nat.reduceEqDiff, reduceCtorEq, Nat.reduceLeDiff, Nat.reduceSub, Nat.reduceMul, Nat.reduceLT, Int.reduceEq, Int.reduceLT, Int.reduceLE, Int.reduceBEq, Int.reduceBNe, Int.reduceToNat, Int.reduceNeg, Int.reduceSub, Int.reduceAdd]
  refine callK (within_h _ _ _) ?_
  simp only [push_cast, Nat.reduceBEq, Nat.reduceAdd, Nat.reduceEqDiff, reduceCtorEq, Nat.reduceLeDiff, Nat.reduceSub, Nat.reduceMul, Nat.reduceLT, Int.reduceEq, Int.reduceLT, Int.reduceLE, Int.reduceBEq, Int.reduceBNe, Int.reduceToNat, Int.reduceNeg, Int.reduceSub, Int.reduceAdd, isKey_keyB]
theorem plRight_h (p : PlD) : Hv.ACalls Try.prog 93 [.agg (plH p)] (.lit (.bool (plB p))) := by
  refine acallsC_of (rs := [.tmp 2]) ⟨[0, 1, 2], [], [], [], [], []⟩ TOk mixed Try.func93 rfl rfl (by kernel_rfl) (by kernel_rfl) rfl (by simp [noId_lit, noId_agg, plH]) (by simp [noId_lit]) ?_
  rw [← pl_plB]
  simp only [push_cast, Nat.reduceBEq, Nat.reduceAdd, Nat.reduceEqDiff, reduceCtorEq, Nat.reduceLeDiff, Nat.reduceSub, Nat.reduceMul, Nat.reduceLT, Int.reduceEq, Int.reduceLT, Int.reduceLE, Int.reduceBEq, Int.reduceBNe, Int.reduceToNat, Int.reduceNeg, Int.reduceSub, Int.reduceAdd, plH]
  refine callK (within_h _ _ _) ?_
  cases h1 : withinB p.level 0 3 with
  | false => simp only [push_cast, Nat.reduceBEq, Nat.reduceAdd, Nat.reduceEqDiff, reduceCtorEq, Nat.reduceLeDiff, Nat.reduceSub, Nat.reduceMul, Nat.reduceLT, Int.reduceEq, Int.reduceLT, Int.reduceLE, Int.reduceBEq, Int.reduceBNe, Int.reduceToNat, Int.reduceNeg, Int.reduceSub, Int.reduceAdd]
  | true =>
    simp only [push_cast, Nat.reduceBEq, Nat.reduceAdd, Nat.reduceEqDiff, reduceCtorEq, Nat.reduceLeDiff, Nat.reduceSub, Nat.reduceMul, Nat.reduceLT, Int.reduceEq, Int.reduceLT, Int.reduceLE, Int.reduceBEq, Int.reduceBNe, Int.reduceToNat, Int.reduceNeg, Int.reduceSub, Int.reduceAdd]
    refine callK (within_h _ _ _) ?_
    simp only [push_cast, Nat.reduceBEq, Nat.reduceAdd, Nat.reduceEqDiff, reduceCtorEq, Nat.reduceLeDiff, Nat.reduceSub, Nat.reduceMul, Nat.reduceLT, Int.reduceEq, Int.reduceLT, Int.reduceLE, Int.reduceBEq, Int.reduceBNe, Int.reduceToNat, Int.reduceNeg, Int.reduceSub, Int.reduceAdd]
theorem metaRight_h (m : MetaD) : Hv.ACalls Try.prog 96 [.agg (metaH m)] (.lit (.bool (tableB m))) := by
  refine acallsC_of (rs := [.tmp 2]) ⟨[0, 1, 2], [], [], [], [], []⟩ TOk mixed Try.func96 rfl rfl (by kernel_rfl) (by kernel_rfl) rfl (by simp [noId_lit, noId_agg, metaH]) (by simp [noId_lit]) ?_
  rw [← meta_tableB]
  simp only [push_cast, Nat.reduceBEq, Nat.reduceAdd, Nat.reduceEqDiff, reduceCtorEq, Nat.reduceLeDiff, Nat.reduceSub, Nat.reduceMul, Nat.reduceLT, Int.reduceEq, Int.reduceLT, Int.reduceLE, Int.reduceBEq, Int.reduceBNe, Int.reduceToNat, Int.reduceNeg, Int.reduceSub, Int.reduceAdd, metaH]
  refine callK (within_h _ _ _) ?_
  cases h1 : withinB m.file 1 999999 with
  | false => simp only [push_cast, Nat.reduceBEq, Nat.reduceAdd, Nat.reduceEqDiff, reduceCtorEq, Nat.reduceLeDiff, Nat.reduceSub, Nat.reduceMul, Nat.reduceLT, Int.reduceEq, Int.reduceLT, Int.reduceLE, Int.reduceBEq, Int.reduceBNe, Int.reduceToNat, Int.reduceNeg, Int.reduceSub, Int.reduceAdd]
  | true =>
    simp only [push_cast, Nat.reduceBEq, Nat.reduceAdd, Nat.reduceEqDiff, reduceCtorEq, Nat.reduceLeDiff, Nat.reduceSub, Nat.reduceMul, Nat.reduceLT, Int.reduceEq, Int.reduceLT, Int.reduceLE, Int.reduceBEq, Int.reduceBNe, Int.reduceToNat, Int.reduceNeg, Int.reduceSub, Int.reduceAdd]
    refine callK (within_h _ _ _) ?_
    cases h2 : withinB m.size 1 1048576 with
    | false => simp only [push_cast, Nat.reduceBEq, Nat.reduceAdd, Nat.reduceEqDiff, reduceCtorEq, Nat.reduceLeDiff, Nat.reduceSub, Nat.reduceMul, Nat.reduceLT, Int.reduceEq, Int.reduceLT, Int.reduceLE, Int.reduceBEq, Int.reduceBNe, Int.reduceToNat, Int.reduceNeg, Int.reduceSub, Int.reduceAdd]
    | true =>
      simp only [push_cast, Nat.reduceBEq, Nat.reduceAdd, Nat.reduceEqDiff, reduceCtorEq, Nat.reduceLeDiff, Nat.reduceSub, Nat.reduceMul, Nat.reduceLT, Int.reduceEq, Int.reduceLT, Int.reduceLE, Int.reduceBEq, Int.reduceBNe, Int.reduceToNat, Int.reduceNeg, Int.reduceSub, Int.reduceAdd]
      refine callK (isKey_h _) ?_
      cases h3 : keyB m.first with
      | false => simp only [push_cast, Nat.reduceBEq, Nat.reduceAdd, Nat.reduceEqDiff, reduceCtorEq, Nat.reduceLeDiff, Nat.reduceSub, Nat.reduceMul, Nat.reduceLT, Int.reduceEq, Int.reduceLT, Int.reduceLE, Int.reduceBEq, Int.reduceBNe, Int.reduceToNat, Int.reduceNeg, Int.reduceSub, Int.reduceAdd]
      | true =>
        simp only [push_cast, Nat.reduceBEq, Nat.reduceAdd, Nat.reduceEqDiff, reduceCtorEq, Nat.reduceLeDiff, Nat.reduceSub, Nat.reduceMul, Nat.reduceLT, Int.reduceEq, Int.reduceLT, Int.reduceLE, Int.reduceBEq, Int.reduceBNe, Int.reduceToNat, Int.reduceNeg, Int.reduceSub, Int.reduceAdd]
        refine callK (isKey_h _) ?_
        cases h4 : keyB m.last with
        | false => simp only [push_cast, Nat.reduceBEq, Nat.reduceAdd, Nat.reduceEqDiff, reduceCtorEq, Nat.reduceLeDiff, Nat.reduceSub, Nat.reduceMul, Nat.reduceLT, Int.reduceEq, Int.reduceLT, Int.reduceLE, Int.reduceBEq, Int.reduceBNe, Int.reduceToNat, Int.reduceNeg, Int.reduceSub, Int.reduceAdd]
        | true => simp only [push_cast, Nat.reduceBEq, Nat.reduceAdd, Nat.reduceEqDiff, reduceCtorEq, Nat.reduceLeDiff, Nat.reduceSub, Nat.reduceMul, Nat.reduceLT, Int.reduceEq, Int.reduceLT, Int.reduceLE, Int.reduceBEq, Int.reduceBNe, Int.reduceToNat, Int.reduceNeg, Int.reduceSub, Int.reduceAdd, sle]
theorem told_h (n lo hi : Int) : Hv.ACalls Try.prog 89 [.lit (.int .i64 n), .lit (.int .i64 lo), .lit (.int .i64 hi)] (.lit (.bool (toldB n lo hi))) := by
  refine acallsC_of (rs := [.tmp 6]) ⟨[0, 1, 2, 6], [], [], [], [], []⟩ TOk mixed Try.func89 rfl rfl (by kernel_rfl) (by kernel_rfl) rfl (by simp [noId_lit]) (by simp [noId_lit]) ?_
  unfold toldB
  cases h1 : n == -1 with
  | true => simp only [push_cast, Nat.reduceBEq, Nat.reduceAdd, Nat.reduceEqDiff, reduceCtorEq, Nat.reduceLeDiff, Nat.reduceSub, Nat.reduceMul, Nat.reduceLT, Int.reduceEq, Int.reduceLT, Int.reduceLE, Int.reduceBEq, Int.reduceBNe, Int.reduceToNat, Int.reduceNeg, Int.reduceSub, Int.reduceAdd, h1]
  | false =>
    simp only [push_cast, Nat.reduceBEq, Nat.reduceAdd, Nat.reduceEqDiff, reduceCtorEq, Nat.reduceLeDiff, Nat.reduceSub, Nat.reduceMul, Nat.reduceLT, Int.reduceEq, Int.reduceLT, Int.reduceLE, Int.reduceBEq, Int.reduceBNe, Int.reduceToNat, Int.reduceNeg, Int.reduceSub, Int.reduceAdd, h1]
    refine callK (within_h _ _ _) ?_
    simp only [push_cast, Nat.reduceBEq, Nat.reduceAdd, Nat.reduceEqDiff, reduceCtorEq, Nat.reduceLeDiff, Nat.reduceSub, Nat.reduceMul, Nat.reduceLT, Int.reduceEq, Int.reduceLT, Int.reduceLE, Int.reduceBEq, Int.reduceBNe, Int.reduceToNat, Int.reduceNeg, Int.reduceSub, Int.reduceAdd]
theorem notPl_h (p : PlD) : Hv.ACalls Try.prog 92 [.agg (plH p)] (.lit (.bool (!plB p))) := by
  refine acallsC_of (rs := [.tmp 2]) ⟨[0, 1, 2], [], [], [], [], []⟩ TOk mixed Try.func92 rfl rfl (by kernel_rfl) (by kernel_rfl) rfl (by simp [noId_lit, noId_agg, plH]) (by simp [noId_lit]) ?_
  simp only [push_cast, Nat.reduceBEq, Nat.reduceAdd, Nat.reduceEqDiff, reduceCtorEq, Nat.reduceLeDiff, Nat.reduceSub, Nat.reduceMul, Nat.reduceLT, Int.reduceEq, Int.reduceLT, Int.reduceLE, Int.reduceBEq, Int.reduceBNe, Int.reduceToNat, Int.reduceNeg, Int.reduceSub, Int.reduceAdd, plH]
  refine callK (plRight_h p) ?_
  simp only [push_cast, Nat.reduceBEq, Nat.reduceAdd, Nat.reduceEqDiff, reduceCtorEq, Nat.reduceLeDiff, Nat.reduceSub, Nat.reduceMul, Nat.reduceLT, Int.reduceEq, Int.reduceLT, Int.reduceLE, Int.reduceBEq, Int.reduceBNe, Int.reduceToNat, Int.reduceNeg, Int.reduceSub, Int.reduceAdd]
theorem notAdd_h (a : AddD) : Hv.ACalls Try.prog 95 [.agg (addH a)] (.lit (.bool (!addB a))) := by
  refine acallsC_of (rs := [.tmp 2]) ⟨[0, 1, 2], [], [], [], [], []⟩ TOk mixed Try.func95 rfl rfl (by kernel_rfl) (by kernel_rfl) rfl (by simp [noId_lit, noId_agg, addH]) (by simp [noId_lit]) ?_
  rw [← add_addB]
  simp only [push_cast, Nat.reduceBEq, Nat.reduceAdd, Nat.reduceEqDiff, reduceCtorEq, Nat.reduceLeDiff, Nat.reduceSub, Nat.reduceMul, Nat.reduceLT, Int.reduceEq, Int.reduceLT, Int.reduceLE, Int.reduceBEq, Int.reduceBNe, Int.reduceToNat, Int.reduceNeg, Int.reduceSub, Int.reduceAdd, addH]
  refine callK (within_h _ _ _) ?_
  cases h1 : withinB a.level 0 3 with
  | false => simp only [push_cast, Nat.reduceBEq, Nat.reduceAdd, Nat.reduceEqDiff, reduceCtorEq, Nat.reduceLeDiff, Nat.reduceSub, Nat.reduceMul, Nat.reduceLT, Int.reduceEq, Int.reduceLT, Int.reduceLE, Int.reduceBEq, Int.reduceBNe, Int.reduceToNat, Int.reduceNeg, Int.reduceSub, Int.reduceAdd]
  | true =>
    simp only [push_cast, Nat.reduceBEq, Nat.reduceAdd, Nat.reduceEqDiff, reduceCtorEq, Nat.reduceLeDiff, Nat.reduceSub, Nat.reduceMul, Nat.reduceLT, Int.reduceEq, Int.reduceLT, Int.reduceLE, Int.reduceBEq, Int.reduceBNe, Int.reduceToNat, Int.reduceNeg, Int.reduceSub, Int.reduceAdd]
    refine callK (metaRight_h a.t) ?_
    simp only [push_cast, Nat.reduceBEq, Nat.reduceAdd, Nat.reduceEqDiff, reduceCtorEq, Nat.reduceLeDiff, Nat.reduceSub, Nat.reduceMul, Nat.reduceLT, Int.reduceEq, Int.reduceLT, Int.reduceLE, Int.reduceBEq, Int.reduceBNe, Int.reduceToNat, Int.reduceNeg, Int.reduceSub, Int.reduceAdd]
theorem indexPl_h (l : List PlD) (f : Nat) (p : PlD → Bool) (hf : ∀ x, Hv.ACalls Try.prog f [.agg (plH x)] (.lit (.bool (p x)))) (hl : l.length ≤ 1000000) :
    Hv.ACalls Try.prog 111 [.sl (l.map plH), .fn f []] (.lit (.int .i64 (idxZ p l))) := by
  refine acallsC_of (rs := [.tmp 4]) ⟨[0, 1, 4, 5, 7, 8, 9, 16], [], [], [], [], []⟩ TOk mixed Try.func111 rfl rfl (by kernel_rfl) (by kernel_rfl) rfl (by simp [noId_lit, noId_sl, plH, NoId.fn]) (by simp [noId_lit]) ?_
  simp only [push_cast, Nat.reduceBEq, Nat.reduceAdd, Nat.reduceEqDiff, reduceCtorEq, Nat.reduceLeDiff, Nat.reduceSub, Nat.reduceMul, Nat.reduceLT, Int.reduceEq, Int.reduceLT, Int.reduceLE, Int.reduceBEq, Int.reduceBNe, Int.reduceToNat, Int.reduceNeg, Int.reduceSub, Int.reduceAdd]
  refine loopK (fun n s => ∃ k : Nat, k ≤ l.length ∧ (l.take k).any p = false ∧ n = l.length - k ∧ s = ⟨[(0, .sl (l.map plH)), (1, .fn f []), (7, .lit (.int .i64 (l.length : Int))), (8, .lit (.int .i64 (k : Int)))], fun _ => none, 0⟩) _ [0, 1, 7, 8] ⟨0, Nat.zero_le _, rfl, rfl, rfl⟩ ?_
  rintro n _ ⟨k, hk, hall, rfl, rfl⟩
  by_cases h : k < l.length
  · obtain ⟨x, hx⟩ : ∃ x, l[k]? = some x := ⟨_, List.getElem?_eq_getElem h⟩
    have hw := wrap_nat (k := k) (by omega)
    simp only [push_cast, Nat.reduceBEq, Nat.reduceAdd, Nat.reduceEqDiff, reduceCtorEq, Nat.reduceLeDiff, Nat.reduceSub, Nat.reduceMul, Nat.reduceLT, Int.reduceEq, Int.reduceLT, Int.reduceLE, Int.reduceBEq, Int.reduceBNe, Int.reduceToNat, Int.reduceNeg, Int.reduceSub, Int.reduceAdd, h, hx, plH]
    refine callK (hf x) ?_
    cases hp : p x with
    | true => simp only [push_cast, Nat.reduceBEq, Nat.reduceAdd, Nat.reduceEqDiff, reduceCtorEq, Nat.reduceLeDiff, Nat.reduceSub, Nat.reduceMul, Nat.reduceLT, Int.reduceEq, Int.reduceLT, Int.reduceLE, Int.reduceBEq, Int.reduceBNe, Int.reduceToNat, Int.reduceNeg, Int.reduceSub, Int.reduceAdd, idxZ_at hall hx hp]
    | false =>
      simp only [push_cast, Nat.reduceBEq, Nat.reduceAdd, Nat.reduceEqDiff, reduceCtorEq, Nat.reduceLeDiff, Nat.reduceSub, Nat.reduceMul, Nat.reduceLT, Int.reduceEq, Int.reduceLT, Int.reduceLE, Int.reduceBEq, Int.reduceBNe, Int.reduceToNat, Int.reduceNeg, Int.reduceSub, Int.reduceAdd, hw]
      exact ⟨_, by omega, k + 1, by omega, any_step hall hx hp, rfl, rfl⟩
  · have : l.take k = l := List.take_of_length_le (by omega)
    rw [this] at hall
    simp only [push_cast, Nat.reduceBEq, Nat.reduceAdd, Nat.reduceEqDiff, reduceCtorEq, Nat.reduceLeDiff, Nat.reduceSub, Nat.reduceMul, Nat.reduceLT, Int.reduceEq, Int.reduceLT, Int.reduceLE, Int.reduceBEq, Int.reduceBNe, Int.reduceToNat, Int.reduceNeg, Int.reduceSub, Int.reduceAdd, h, idxZ_none hall]
theorem containsPl_h (l : List PlD) (f : Nat) (p : PlD → Bool) (hf : ∀ x, Hv.ACalls Try.prog f [.agg (plH x)] (.lit (.bool (p x)))) (hl : l.length ≤ 1000000) :
    Hv.ACalls Try.prog 91 [.sl (l.map plH), .fn f []] (.lit (.bool (l.any p))) := by
  refine acallsC_of (rs := [.tmp 4]) ⟨[0, 1, 4], [], [], [], [], []⟩ TOk mixed Try.func91 rfl rfl (by kernel_rfl) (by kernel_rfl) rfl (by simp [noId_lit, noId_sl, plH, NoId.fn]) (by simp [noId_lit]) ?_
  simp only [push_cast, Nat.reduceBEq, Nat.reduceAdd, Nat.reduceEqDiff, reduceCtorEq, Nat.reduceLeDiff, Nat.reduceSub, Nat.reduceMul, Nat.reduceLT, Int.reduceEq, Int.reduceLT, Int.reduceLE, Int.reduceBEq, Int.reduceBNe, Int.reduceToNat, Int.reduceNeg, Int.reduceSub, Int.reduceAdd]
  refine callK (indexPl_h l f p hf hl) ?_
  simp only [push_cast, Nat.reduceBEq, Nat.reduceAdd, Nat.reduceEqDiff, reduceCtorEq, Nat.reduceLeDiff, Nat.reduceSub, Nat.reduceMul, Nat.reduceLT, Int.reduceEq, Int.reduceLT, Int.reduceLE, Int.reduceBEq, Int.reduceBNe, Int.reduceToNat, Int.reduceNeg, Int.reduceSub, Int.reduceAdd, ge_iff_le, idxZ_any]
theorem indexAdd_h (l : List AddD) (f : Nat) (p : AddD → Bool) (hf : ∀ x, Hv.ACalls Try.prog f [.agg (addH x)] (.lit (.bool (p x)))) (hl : l.length ≤ 1000000) :
    Hv.ACalls Try.prog 112 [.sl (l.map addH), .fn f []] (.lit (.int .i64 (idxZ p l))) := by
  refine acallsC_of (rs := [.tmp 4]) ⟨[0, 1, 4, 5, 7, 8, 9, 16], [], [], [], [], []⟩ TOk mixed Try.func112 rfl rfl (by kernel_rfl) (by kernel_rfl) rfl (by simp [noId_lit, noId_sl, addH, NoId.fn]) (by simp [noId_lit]) ?_
  simp only [push_cast, Nat.reduceBEq, Nat.reduceAdd, Nat.reduceEqDiff, reduceCtorEq, Nat.reduceLeDiff, Nat.reduceSub, Nat.reduceMul, Nat.reduceLT, Int.reduceEq, Int.reduceLT, Int.reduceLE, Int.reduceBEq, Int.reduceBNe, Int.reduceToNat, Int.reduceNeg, Int.reduceSub, Int.reduceAdd]
  refine loopK (fun n s => ∃ k : Nat, k ≤ l.length ∧ (l.take k).any p = false ∧ n = l.length - k ∧ s = ⟨[(0, .sl (l.map addH)), (1, .fn f []), (7, .lit (.int .i64 (l.length : Int))), (8, .lit (.int .i64 (k : Int)))], fun _ => none, 0⟩) _ [0, 1, 7, 8] ⟨0, Nat.zero_le _, rfl, rfl, rfl⟩ ?_
  rintro n _ ⟨k, hk, hall, rfl, rfl⟩
  by_cases h : k < l.length
  · obtain ⟨x, hx⟩ : ∃ x, l[k]? = some x := ⟨_, List.getElem?_eq_getElem h⟩
    have hw := wrap_nat (k := k) (by omega)
    simp only [push_cast, Nat.reduceBEq, Nat.reduceAdd, Nat.reduceEqDiff, reduceCtorEq, Nat.reduceLeDiff, Nat.reduceSub, Nat.reduceMul, Nat.reduceLT, Int.reduceEq, Int.reduceLT, Int.reduceLE, Int.reduceBEq, Int.reduceBNe, Int.reduceToNat, Int.reduceNeg, Int.reduceSub, Int.reduceAdd, h, hx, addH]
    refine callK (hf x) ?_
    cases hp : p x with
    | true => simp only [push_cast, Nat.reduceBEq, Nat.reduceAdd, Nat.reduceEqDiff, reduceCtorEq, Nat.reduceLeDiff, Nat.reduceSub, Nat.reduceMul, Nat.reduceLT, Int.reduceEq, Int.reduceLT, Int.reduceLE, Int.reduceBEq, Int.reduceBNe, Int.reduceToNat, Int.reduceNeg, Int.reduceSub, Int.reduceAdd, idxZ_at hall hx hp]
    | false =>
      simp only [push_cast, Nat.reduceBEq, Nat.reduceAdd, Nat.reduceEqDiff, reduceCtorEq, Nat.reduceLeDiff, Nat.reduceSub, Nat.reduceMul, Nat.reduceLT, Int.reduceEq, Int.reduceLT, Int.reduceLE, Int.reduceBEq, Int.reduceBNe, Int.reduceToNat, Int.reduceNeg, Int.reduceSub, Int.reduceAdd, hw]
      exact ⟨_, by omega, k + 1, by omega, any_step hall hx hp, rfl, rfl⟩
  · have : l.take k = l := List.take_of_length_le (by omega)
    rw [this] at hall
    simp only [push_cast, Nat.reduceBEq, Nat.reduceAdd, Nat.reduceEqDiff, reduceCtorEq, Nat.reduceLeDiff, Nat.reduceSub, Nat.reduceMul, Nat.reduceLT, Int.reduceEq, Int.reduceLT, Int.reduceLE, Int.reduceBEq, Int.reduceBNe, Int.reduceToNat, Int.reduceNeg, Int.reduceSub, Int.reduceAdd, h, idxZ_none hall]
theorem containsAdd_h (l : List AddD) (f : Nat) (p : AddD → Bool) (hf : ∀ x, Hv.ACalls Try.prog f [.agg (addH x)] (.lit (.bool (p x)))) (hl : l.length ≤ 1000000) :
    Hv.ACalls Try.prog 94 [.sl (l.map addH), .fn f []] (.lit (.bool (l.any p))) := by
  refine acallsC_of (rs := [.tmp 4]) ⟨[0, 1, 4], [], [], [], [], []⟩ TOk mixed Try.func94 rfl rfl (by kernel_rfl) (by kernel_rfl) rfl (by simp [noId_lit, noId_sl, addH, NoId.fn]) (by simp [noId_lit]) ?_
  simp only [push_cast, Nat.reduceBEq, Nat.reduceAdd, Nat.reduceEqDiff, reduceCtorEq, Nat.reduceLeDiff, Nat.reduceSub, Nat.reduceMul, Nat.reduceLT, Int.reduceEq, Int.reduceLT, Int.reduceLE, Int.reduceBEq, Int.reduceBNe, Int.reduceToNat, Int.reduceNeg, Int.reduceSub, Int.reduceAdd]
  refine callK (indexAdd_h l f p hf hl) ?_
  simp only [push_cast, Nat.reduceBEq, Nat.reduceAdd, Nat.reduceEqDiff, reduceCtorEq, Nat.reduceLeDiff, Nat.reduceSub, Nat.reduceMul, Nat.reduceLT, Int.reduceEq, Int.reduceLT, Int.reduceLE, Int.reduceBEq, Int.reduceBNe, Int.reduceToNat, Int.reduceNeg, Int.reduceSub, Int.reduceAdd, ge_iff_le, idxZ_any]
theorem edRight_h (e : EdD) : Hv.ACalls Try.prog 59 [edH e] (.lit (.bool (rightB e))) := by
  refine acallsC_of (rs := [.tmp 2]) ⟨[0, 1, 2, 3], [], [], [], [], []⟩ TOk mixed Try.func59 rfl rfl (by kernel_rfl) (by kernel_rfl) rfl (nid1 (noId_ed e)) (by simp [noId_lit]) ?_
  rw [← ed_rightB]
  simp only [push_cast, Nat.reduceBEq, Nat.reduceAdd, Nat.reduceEqDiff, reduceCtorEq, Nat.reduceLeDiff, Nat.reduceSub, Nat.reduceMul, Nat.reduceLT, Int.reduceEq, Int.reduceLT, Int.reduceLE, Int.reduceBEq, Int.reduceBNe, Int.reduceToNat, Int.reduceNeg, Int.reduceSub, Int.reduceAdd, edH]
  refine callK (told_h _ _ _) ?_
  cases h1 : toldB e.log 1 1000000 with
  | false => simp only [push_cast, Nat.reduceBEq, Nat.reduceAdd, Nat.reduceEqDiff, reduceCtorEq, Nat.reduceLeDiff, Nat.reduceSub, Nat.reduceMul, Nat.reduceLT, Int.reduceEq, Int.reduceLT, Int.reduceLE, Int.reduceBEq, Int.reduceBNe, Int.reduceToNat, Int.reduceNeg, Int.reduceSub, Int.reduceAdd]
  | true =>
    simp only [push_cast, Nat.reduceBEq, Nat.reduceAdd, Nat.reduceEqDiff, reduceCtorEq, Nat.reduceLeDiff, Nat.reduceSub, Nat.reduceMul, Nat.reduceLT, Int.reduceEq, Int.reduceLT, Int.reduceLE, Int.reduceBEq, Int.reduceBNe, Int.reduceToNat, Int.reduceNeg, Int.reduceSub, Int.reduceAdd]
    refine callK (told_h _ _ _) ?_
    cases h2 : toldB e.next 1 1000000 with
    | false => simp only [push_cast, Nat.reduceBEq, Nat.reduceAdd, Nat.reduceEqDiff, reduceCtorEq, Nat.reduceLeDiff, Nat.reduceSub, Nat.reduceMul, Nat.reduceLT, Int.reduceEq, Int.reduceLT, Int.reduceLE, Int.reduceBEq, Int.reduceBNe, Int.reduceToNat, Int.reduceNeg, Int.reduceSub, Int.reduceAdd]
    | true =>
      simp only [push_cast, Nat.reduceBEq, Nat.reduceAdd, Nat.reduceEqDiff, reduceCtorEq, Nat.reduceLeDiff, Nat.reduceSub, Nat.reduceMul, Nat.reduceLT, Int.reduceEq, Int.reduceLT, Int.reduceLE, Int.reduceBEq, Int.reduceBNe, Int.reduceToNat, Int.reduceNeg, Int.reduceSub, Int.reduceAdd]
      refine callK (told_h _ _ _) ?_
      cases h3 : toldB e.seq 0 72057594037927935 with
      | false => simp only [push_cast, Nat.reduceBEq, Nat.reduceAdd, Nat.reduceEqDiff, reduceCtorEq, Nat.reduceLeDiff, Nat.reduceSub, Nat.reduceMul, Nat.reduceLT, Int.reduceEq, Int.reduceLT, Int.reduceLE, Int.reduceBEq, Int.reduceBNe, Int.reduceToNat, Int.reduceNeg, Int.reduceSub, Int.reduceAdd]
      | true =>
        by_cases h4 : (e.gone.length : Int) ≤ 1000
        · by_cases h5 : (e.new.length : Int) ≤ 1000
          · simp only [push_cast, Nat.reduceBEq, Nat.reduceAdd, Nat.reduceEqDiff, reduceCtorEq, Nat.reduceLeDiff, Nat.reduceSub, Nat.reduceMul, Nat.reduceLT, Int.reduceEq, Int.reduceLT, Int.reduceLE, Int.reduceBEq, Int.reduceBNe, Int.reduceToNat, Int.reduceNeg, Int.reduceSub, Int.reduceAdd, h4, h5]
            refine callK (containsPl_h e.gone _ _ notPl_h (by omega)) ?_
            cases h6 : e.gone.any fun p => !plB p with
            | true => simp only [push_cast, Nat.reduceBEq, Nat.reduceAdd, Nat.reduceEqDiff, reduceCtorEq, Nat.reduceLeDiff, Nat.reduceSub, Nat.reduceMul, Nat.reduceLT, Int.reduceEq, Int.reduceLT, Int.reduceLE, Int.reduceBEq, Int.reduceBNe, Int.reduceToNat, Int.reduceNeg, Int.reduceSub, Int.reduceAdd]
            | false =>
              simp only [push_cast, Nat.reduceBEq, Nat.reduceAdd, Nat.reduceEqDiff, reduceCtorEq, Nat.reduceLeDiff, Nat.reduceSub, Nat.reduceMul, Nat.reduceLT, Int.reduceEq, Int.reduceLT, Int.reduceLE, Int.reduceBEq, Int.reduceBNe, Int.reduceToNat, Int.reduceNeg, Int.reduceSub, Int.reduceAdd]
              refine callK (containsAdd_h e.new _ _ notAdd_h (by omega)) ?_
              simp only [push_cast, Nat.reduceBEq, Nat.reduceAdd, Nat.reduceEqDiff, reduceCtorEq, Nat.reduceLeDiff, Nat.reduceSub, Nat.reduceMul, Nat.reduceLT, Int.reduceEq, Int.reduceLT, Int.reduceLE, Int.reduceBEq, Int.reduceBNe, Int.reduceToNat, Int.reduceNeg, Int.reduceSub, Int.reduceAdd]
          · simp only [push_cast, Nat.reduceBEq, Nat.reduceAdd, Nat.reduceEqDiff, reduceCtorEq, Nat.reduceLeDiff, Nat.reduceSub, Nat.reduceMul, Nat.reduceLT, Int.reduceEq, Int.reduceLT, Int.reduceLE, Int.reduceBEq, Int.reduceBNe, Int.reduceToNat, Int.reduceNeg, Int.reduceSub, Int.reduceAdd, h4, h5]
        · simp only [push_cast, Nat.reduceBEq, Nat.reduceAdd, Nat.reduceEqDiff, reduceCtorEq, Nat.reduceLeDiff, Nat.reduceSub, Nat.reduceMul, Nat.reduceLT, Int.reduceEq, Int.reduceLT, Int.reduceLE, Int.reduceBEq, Int.reduceBNe, Int.reduceToNat, Int.reduceNeg, Int.reduceSub, Int.reduceAdd, h4]
end Go.Proofs.Ytheanmfdfoefoaa
