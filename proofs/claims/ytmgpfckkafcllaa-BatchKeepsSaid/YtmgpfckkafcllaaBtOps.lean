/- Chapter 9: the same lists of changes; batched; by the walk over a heap. -/
import Derived.Test.YtmgpfckkafcllaaBtSort
import Derived.Test.YtmgpfckkafcllaaSizes
import Derived.Test.YtmgpfckkafcllaaHvSet
set_option linter.unusedVariables false
set_option linter.unusedSimpArgs false
namespace Go.Proofs.Ytmgpfckkafcllaa
open Go Go.RowKit Hv
set_option maxRecDepth 20000
set_option maxHeartbeats 4000000
theorem nb {a b : Nat} (h : a ≠ b) : (a == b) = false := beq_eq_false_iff_ne.2 h
theorem wrap_nat0 {k : Nat} (h : k < 4611686018427387904) : IntKind.i64.wrap ((k : Int) + 1) = ((k + 1 : Nat) : Int) := by
  have := IntWalk.i64_in ((k : Int) + 1) (by omega)
  omega
def opI (o : OpD) : List AV := [.lit (.int .i64 o.kind), .lit (.string o.key), .lit (.string o.val)]
/-- A list of changes, of whoever. -/
def OpsIs (H : Hp) (x : AV) (l : List OpD) : Prop := x = .sl (l.map opI) ∨ ∃ g, x = .rw g 3 0 l.length ∧ H g = some (.row false 24 (l.map opI))
theorem batched_h : Hv.ACalls Try.prog 9 [] (.lit (.bool true)) := by
  refine ⟨by kernel_rfl, fun w W gb vs hW hl hr => ?_⟩
  obtain rfl : vs = [] := List.eq_nil_of_length_eq_zero hl.symm
  exact (batched_calls w).mono fun e w' h => ⟨_, h.1, .lit _, h.2⟩
theorem ops_ble (l : List OpD) : Nat.ble l.length (l.map opI).length = true := by rw [Nat.ble_eq, List.length_map]; exact Nat.le_refl _
theorem ops_take (l : List OpD) : List.take l.length (l.map opI) = l.map opI := List.take_of_length_le (by rw [List.length_map]; exact Nat.le_refl _)
theorem Ops_refl {H : Hp} {n : Nat} {x y : AV} {l : List OpD} (hx : OpsIs H x l) (hy : OpsIs H y l) (hl : l.length ≤ 4000000000000) :
    HCalls Try.prog 16 [x, y] H n fun r H' n' => r = .lit (.bool true) ∧ H' = H ∧ n' = n := by
  refine hcallsC_of (rs := [.tmp 4]) ⟨[0, 1, 4, 5, 10, 14, 25], [], [], [(6, [(0, [], []), (1, [], []), (2, [], []), (3, [], []), (4, [], []), (5, [], []), (6, [], []), (7, [], []), (8, [], [])])], [], []⟩ TOk mixed Try.func16 rfl rfl (by kernel_rfl) (by kernel_rfl) rfl ?_
  have hne : ((l.length : Int) != (l.length : Int)) = false := by simp
  rcases hx with rfl | ⟨g, rfl, hg⟩
  · rcases hy with rfl | ⟨g', rfl, hg'⟩
    · simp only [push_cast, Nat.reduceBEq, Nat.reduceAdd, Nat.reduceEqDiff, reduceCtorEq, Nat.reduceLeDiff, Nat.reduceSub, Nat.reduceMul, Nat.reduceLT, Int.reduceEq, Int.reduceLT, Int.reduceLE, Int.reduceBEq, Int.reduceBNe, Int.reduceToNat, Int.reduceNeg, Int.reduceSub, Int.reduceAdd, hne]
      refine loopK (fun q s => ∃ (k : Nat), k ≤ l.length ∧ q = l.length - k ∧ s = ⟨[(0, .sl (l.map opI)), (1, .sl (l.map opI)), (5, .lit (.int .i64 (k : Int)))], H, n⟩) _ [0, 1, 5] ⟨0, by omega, rfl, rfl⟩ ?_
      rintro q _ ⟨k, hk, rfl, rfl⟩
      by_cases h : k < l.length
      · obtain ⟨x, hx⟩ : ∃ x, l[k]? = some x := ⟨_, List.getElem?_eq_getElem h⟩
        have hw := wrap_nat0 (k := k) (by omega)
        have h' : (k : Int) < (l.length : Int) := by omega
        simp only [push_cast, Nat.reduceBEq, Nat.reduceAdd, Nat.reduceEqDiff, reduceCtorEq, Nat.reduceLeDiff, Nat.reduceSub, Nat.reduceMul, Nat.reduceLT, Int.reduceEq, Int.reduceLT, Int.reduceLE, Int.reduceBEq, Int.reduceBNe, Int.reduceToNat, Int.reduceNeg, Int.reduceSub, Int.reduceAdd, h, h', hx, opI, hw, ops_ble, ops_take]
        exact ⟨_, by omega, k + 1, by omega, rfl, rfl⟩
      · simp only [push_cast, Nat.reduceBEq, Nat.reduceAdd, Nat.reduceEqDiff, reduceCtorEq, Nat.reduceLeDiff, Nat.reduceSub, Nat.reduceMul, Nat.reduceLT, Int.reduceEq, Int.reduceLT, Int.reduceLE, Int.reduceBEq, Int.reduceBNe, Int.reduceToNat, Int.reduceNeg, Int.reduceSub, Int.reduceAdd, h]
    · simp only [push_cast, Nat.reduceBEq, Nat.reduceAdd, Nat.reduceEqDiff, reduceCtorEq, Nat.reduceLeDiff, Nat.reduceSub, Nat.reduceMul, Nat.reduceLT, Int.reduceEq, Int.reduceLT, Int.reduceLE, Int.reduceBEq, Int.reduceBNe, Int.reduceToNat, Int.reduceNeg, Int.reduceSub, Int.reduceAdd, hne]
      refine loopK (fun q s => ∃ (k : Nat), k ≤ l.length ∧ q = l.length - k ∧ s = ⟨[(0, .sl (l.map opI)), (1, .rw g' 3 0 l.length), (5, .lit (.int .i64 (k : Int)))], H, n⟩) _ [0, 1, 5] ⟨0, by omega, rfl, rfl⟩ ?_
      rintro q _ ⟨k, hk, rfl, rfl⟩
      by_cases h : k < l.length
      · obtain ⟨x, hx⟩ : ∃ x, l[k]? = some x := ⟨_, List.getElem?_eq_getElem h⟩
        have hw := wrap_nat0 (k := k) (by omega)
        have h' : (k : Int) < (l.length : Int) := by omega
        simp only [push_cast, Nat.reduceBEq, Nat.reduceAdd, Nat.reduceEqDiff, reduceCtorEq, Nat.reduceLeDiff, Nat.reduceSub, Nat.reduceMul, Nat.reduceLT, Int.reduceEq, Int.reduceLT, Int.reduceLE, Int.reduceBEq, Int.reduceBNe, Int.reduceToNat, Int.reduceNeg, Int.reduceSub, Int.reduceAdd, h, h', hx, opI, hw, ops_ble, ops_take, hg']
        exact ⟨_, by omega, k + 1, by omega, rfl, rfl⟩
      · simp only [push_cast, Nat.reduceBEq, Nat.reduceAdd, Nat.reduceEqDiff, reduceCtorEq, Nat.reduceLeDiff, Nat.reduceSub, Nat.reduceMul, Nat.reduceLT, Int.reduceEq, Int.reduceLT, Int.reduceLE, Int.reduceBEq, Int.reduceBNe, Int.reduceToNat, Int.reduceNeg, Int.reduceSub, Int.reduceAdd, h]
  · rcases hy with rfl | ⟨g', rfl, hg'⟩
    · simp only [push_cast, Nat.reduceBEq, Nat.reduceAdd, Nat.reduceEqDiff, reduceCtorEq, Nat.reduceLeDiff, Nat.reduceSub, Nat.reduceMul, Nat.reduceLT, Int.reduceEq, Int.reduceLT, Int.reduceLE, Int.reduceBEq, Int.reduceBNe, Int.reduceToNat, Int.reduceNeg, Int.reduceSub, Int.reduceAdd, hne]
      refine loopK (fun q s => ∃ (k : Nat), k ≤ l.length ∧ q = l.length - k ∧ s = ⟨[(0, .rw g 3 0 l.length), (1, .sl (l.map opI)), (5, .lit (.int .i64 (k : Int)))], H, n⟩) _ [0, 1, 5] ⟨0, by omega, rfl, rfl⟩ ?_
      rintro q _ ⟨k, hk, rfl, rfl⟩
      by_cases h : k < l.length
      · obtain ⟨x, hx⟩ : ∃ x, l[k]? = some x := ⟨_, List.getElem?_eq_getElem h⟩
        have hw := wrap_nat0 (k := k) (by omega)
        have h' : (k : Int) < (l.length : Int) := by omega
        simp only [push_cast, Nat.reduceBEq, Nat.reduceAdd, Nat.reduceEqDiff, reduceCtorEq, Nat.reduceLeDiff, Nat.reduceSub, Nat.reduceMul, Nat.reduceLT, Int.reduceEq, Int.reduceLT, Int.reduceLE, Int.reduceBEq, Int.reduceBNe, Int.reduceToNat, Int.reduceNeg, Int.reduceSub, Int.reduceAdd, h, h', hx, opI, hw, ops_ble, ops_take, hg]
        exact ⟨_, by omega, k + 1, by omega, rfl, rfl⟩
      · simp only [push_cast, Nat.reduceBEq, Nat.reduceAdd, Nat.reduceEqDiff, reduceCtorEq, Nat.reduceLeDiff, Nat.reduceSub, Nat.reduceMul, Nat.reduceLT, Int.reduceEq, Int.reduceLT, Int.reduceLE, Int.reduceBEq, Int.reduceBNe, Int.reduceToNat, Int.reduceNeg, Int.reduceSub, Int.reduceAdd, h]
    · simp only [push_cast, Nat.reduceBEq, Nat.reduceAdd, Nat.reduceEqDiff, reduceCtorEq, Nat.reduceLeDiff, Nat.reduceSub, Nat.reduceMul, Nat.reduceLT, Int.reduceEq, Int.reduceLT, Int.reduceLE, Int.reduceBEq, Int.reduceBNe, Int.reduceToNat, Int.reduceNeg, Int.reduceSub, Int.reduceAdd, hne]
      refine loopK (fun q s => ∃ (k : Nat), k ≤ l.length ∧ q = l.length - k ∧ s = ⟨[(0, .rw g 3 0 l.length), (1, .rw g' 3 0 l.length), (5, .lit (.int .i64 (k : Int)))], H, n⟩) _ [0, 1, 5] ⟨0, by omega, rfl, rfl⟩ ?_
      rintro q _ ⟨k, hk, rfl, rfl⟩
      by_cases h : k < l.length
      · obtain ⟨x, hx⟩ : ∃ x, l[k]? = some x := ⟨_, List.getElem?_eq_getElem h⟩
        have hw := wrap_nat0 (k := k) (by omega)
        have h' : (k : Int) < (l.length : Int) := by omega
        simp only [push_cast, Nat.reduceBEq, Nat.reduceAdd, Nat.reduceEqDiff, reduceCtorEq, Nat.reduceLeDiff, Nat.reduceSub, Nat.reduceMul, Nat.reduceLT, Int.reduceEq, Int.reduceLT, Int.reduceLE, Int.reduceBEq, Int.reduceBNe, Int.reduceToNat, Int.reduceNeg, Int.reduceSub, Int.reduceAdd, h, h', hx, opI, hw, ops_ble, ops_take, hg, hg']
        exact ⟨_, by omega, k + 1, by omega, rfl, rfl⟩
      · simp only [push_cast, Nat.reduceBEq, Nat.reduceAdd, Nat.reduceEqDiff, reduceCtorEq, Nat.reduceLeDiff, Nat.reduceSub, Nat.reduceMul, Nat.reduceLT, Int.reduceEq, Int.reduceLT, Int.reduceLE, Int.reduceBEq, Int.reduceBNe, Int.reduceToNat, Int.reduceNeg, Int.reduceSub, Int.reduceAdd, h]
end Go.Proofs.Ytmgpfckkafcllaa
