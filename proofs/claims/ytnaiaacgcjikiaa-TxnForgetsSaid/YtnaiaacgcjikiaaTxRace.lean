/- Transactions: the small law in front of each. -/
import Derived.Test.YtnaiaacgcjikiaaTxS
set_option linter.unusedVariables false
set_option linter.unusedSimpArgs false
namespace Go.Proofs.Ytnaiaacgcjikiaa
open Go Go.RowKit Hv
set_option maxRecDepth 20000
set_option maxHeartbeats 4000000
theorem opsL_one (e : Ent Nm OpD) : opsL [e] = [e.val] := by
  have h1 : opsS [e] = [e.key.1] := by
    unfold opsS sortK
    rw [List.map_cons, List.map_nil, List.map_cons, List.map_nil, List.mergeSort_singleton]; rfl
  unfold opsL
  rw [h1, List.map_cons, List.map_nil]
  congr 1
  unfold valOf
  rw [dif_pos e.key.2]
  have : lookE [e] ⟨e.key.1, e.key.2⟩ = some e.val := by simp [lookE, List.find?_cons]
  rw [this]; rfl
def keyX : Nm := ⟨⟨#[97]⟩, by decide⟩
def opX : OpD := ⟨1, ⟨#[97]⟩, ⟨#[120]⟩⟩
def opY : OpD := ⟨0, ⟨#[97]⟩, ⟨#[]⟩⟩
def tX : TxnD := ⟨0, false, [⟨keyX, opX, 0⟩], 1⟩
def tY : TxnD := ⟨0, false, [⟨keyX, opY, 0⟩], 1⟩
theorem chX : chErr ⟨0, false, [], 0⟩ opX = 0 ∧ chTxn ⟨0, false, [], 0⟩ opX = tX := by
  have h : chErr ⟨0, false, [], 0⟩ opX = 0 := by decide
  refine ⟨h, ?_⟩
  unfold chTxn
  rw [if_pos h]; rfl
theorem chY : chErr ⟨0, false, [], 0⟩ opY = 0 ∧ chTxn ⟨0, false, [], 0⟩ opY = tY := by
  have h : chErr ⟨0, false, [], 0⟩ opY = 0 := by decide
  refine ⟨h, ?_⟩
  unfold chTxn
  rw [if_pos h]; rfl
theorem comX (l : List TxnD) : SysD.comErr ⟨([], 0), l⟩ tX 1 = 0 := by
  have h1 : (opsOf tX).length = 1 := by unfold opsOf; show (opsL tX.ops).length = 1; rw [opsL_len]; rfl
  unfold SysD.comErr
  rw [h1]
  rfl
theorem comY (l : List TxnD) : SysD.comErr ⟨([⟨keyX, 1, 0⟩], 1), l⟩ tY 2 = 11 := by
  have h1 : (opsOf tY).length = 1 := by unfold opsOf; show (opsL tY.ops).length = 1; rw [opsL_len]; rfl
  unfold SysD.comErr
  rw [h1]
  rfl
theorem notesX : noteAll ([], 0) (opsL tX.ops) 1 = ([⟨keyX, 1, 0⟩], 1) := by
  show noteAll ([], 0) (opsL [⟨keyX, opX, 0⟩]) 1 = _
  rw [opsL_one]; rfl
theorem chain_c {H H1 H2 : Hp} {n n1 : Nat} {S1 S2 : Nat → Prop} (q : ∀ j, j < n → H1 j = H j ∧ ¬ S1 j) (hn : n ≤ n1) (k : ∀ j, j < n1 → ¬ S1 j → H2 j = H1 j ∧ ¬ S2 j) : ∀ j, j < n → H2 j = H j ∧ ¬ S2 j := fun j hj => by
  obtain ⟨h1, h2⟩ := q j hj
  obtain ⟨h3, h4⟩ := k j (by omega) h2
  exact ⟨h3.trans h1, h4⟩
theorem races_h {H : Hp} {n : Nat} : HCalls Try.prog 6 [] H n fun r H' n' => r = .lit (.bool true) ∧ n ≤ n' ∧ ∀ j, j < n → H' j = H j := by
  refine hcallsC_of (rs := [.tmp 0]) ⟨[0, 1, 2, 3, 4, 5], [], [], []⟩ TOk mixed Try.func6 rfl rfl (by kernel_rfl) (by kernel_rfl) rfl ?_
  simp only [push_cast, Nat.reduceBEq, Nat.reduceAdd, Nat.reduceEqDiff, reduceCtorEq, Nat.reduceLeDiff, Nat.reduceSub, Nat.reduceMul, Nat.reduceLT, Int.reduceEq, Int.reduceLT, Int.reduceLE, Int.reduceBEq, Int.reduceBNe, Int.reduceToNat, Int.reduceNeg, Int.reduceSub, Int.reduceAdd]
  refine callH new_c ?_
  rintro _ H1 _ ⟨rfl, rfl, h1, k1⟩
  simp only [push_cast, Nat.reduceBEq, Nat.reduceAdd, Nat.reduceEqDiff, reduceCtorEq, Nat.reduceLeDiff, Nat.reduceSub, Nat.reduceMul, Nat.reduceLT, Int.reduceEq, Int.reduceLT, Int.reduceLE, Int.reduceBEq, Int.reduceBNe, Int.reduceToNat, Int.reduceNeg, Int.reduceSub, Int.reduceAdd]
  refine callH (begin_c h1 0 (by decide) (by decide)) ?_
  rintro _ H2 n2 ⟨rfl, S2, h2, hn2, k2⟩
  simp only [push_cast, Nat.reduceBEq, Nat.reduceAdd, Nat.reduceEqDiff, reduceCtorEq, Nat.reduceLeDiff, Nat.reduceSub, Nat.reduceMul, Nat.reduceLT, Int.reduceEq, Int.reduceLT, Int.reduceLE, Int.reduceBEq, Int.reduceBNe, Int.reduceToNat, Int.reduceNeg, Int.reduceSub, Int.reduceAdd]
  refine callH (begin_c h2 0 (by decide) (by decide)) ?_
  rintro _ H3 n3 ⟨rfl, S3, h3, hn3, k3⟩
  simp only [push_cast, Nat.reduceBEq, Nat.reduceAdd, Nat.reduceEqDiff, reduceCtorEq, Nat.reduceLeDiff, Nat.reduceSub, Nat.reduceMul, Nat.reduceLT, Int.reduceEq, Int.reduceLT, Int.reduceLE, Int.reduceBEq, Int.reduceBNe, Int.reduceToNat, Int.reduceNeg, Int.reduceSub, Int.reduceAdd]
  refine callH (put_c h3 (i := 0) rfl rfl ⟨#[97]⟩ ⟨#[120]⟩) ?_
  rintro _ H4 n4 ⟨rfl, S4, h4, hn4, k4⟩
  have e4 := chX
  unfold opX at e4
  rw [e4.1]
  simp only [push_cast, Nat.reduceBEq, Nat.reduceAdd, Nat.reduceEqDiff, reduceCtorEq, Nat.reduceLeDiff, Nat.reduceSub, Nat.reduceMul, Nat.reduceLT, Int.reduceEq, Int.reduceLT, Int.reduceLE, Int.reduceBEq, Int.reduceBNe, Int.reduceToNat, Int.reduceNeg, Int.reduceSub, Int.reduceAdd]
  refine callH (del_c h4 (i := 1) rfl rfl ⟨#[97]⟩) ?_
  rintro _ H5 n5 ⟨rfl, S5, h5, hn5, k5⟩
  have e5 := chY
  unfold opY at e5
  rw [e5.1]
  simp only [push_cast, Nat.reduceBEq, Nat.reduceAdd, Nat.reduceEqDiff, reduceCtorEq, Nat.reduceLeDiff, Nat.reduceSub, Nat.reduceMul, Nat.reduceLT, Int.reduceEq, Int.reduceLT, Int.reduceLE, Int.reduceBEq, Int.reduceBNe, Int.reduceToNat, Int.reduceNeg, Int.reduceSub, Int.reduceAdd]
  have e45 : (SysD.put (SysD.put ((SysD.begun (SysD.begun ⟨([], 0), []⟩ 0) 0)) 0 ⟨0, false, [], 0⟩ ⟨1, ⟨#[97]⟩, ⟨#[120]⟩⟩) 1 ⟨0, false, [], 0⟩ ⟨0, ⟨#[97]⟩, ⟨#[]⟩⟩) = ⟨([], 0), [tX, tY]⟩ := by
    unfold SysD.put
    rw [e4.2, e5.2]; rfl
  rw [e45] at h5
  refine callH (commit_c h5 (i := 0) (t := tX) rfl rfl 1 (by decide)) ?_
  rintro _ H6 n6 ⟨rfl, S6, h6, hn6, k6⟩
  have e6 := comX [tX, tY]
  rw [e6]
  have e6' : SysD.com ⟨([], 0), [tX, tY]⟩ 0 tX 1 = ⟨([⟨keyX, 1, 0⟩], 1), [tX.ended, tY]⟩ := by
    unfold SysD.com
    rw [if_pos e6]
    unfold SysD.ended
    rw [notesX]; rfl
  rw [e6'] at h6
  simp only [push_cast, Nat.reduceBEq, Nat.reduceAdd, Nat.reduceEqDiff, reduceCtorEq, Nat.reduceLeDiff, Nat.reduceSub, Nat.reduceMul, Nat.reduceLT, Int.reduceEq, Int.reduceLT, Int.reduceLE, Int.reduceBEq, Int.reduceBNe, Int.reduceToNat, Int.reduceNeg, Int.reduceSub, Int.reduceAdd]
  refine callH (commit_c h6 (i := 1) (t := tY) rfl rfl 2 (by decide)) ?_
  rintro _ H7 n7 ⟨rfl, S7, h7, hn7, k7⟩
  have e7 := comY [tX.ended, tY]
  rw [e7]
  have e7' : SysD.com ⟨([⟨keyX, 1, 0⟩], 1), [tX.ended, tY]⟩ 1 tY 2 = ⟨([⟨keyX, 1, 0⟩], 1), [tX.ended, tY.ended]⟩ := by
    unfold SysD.com
    rw [if_neg (by rw [e7]; decide), if_pos e7]; rfl
  rw [e7'] at h7
  simp only [push_cast, Nat.reduceBEq, Nat.reduceAdd, Nat.reduceEqDiff, reduceCtorEq, Nat.reduceLeDiff, Nat.reduceSub, Nat.reduceMul, Nat.reduceLT, Int.reduceEq, Int.reduceLT, Int.reduceLE, Int.reduceBEq, Int.reduceBNe, Int.reduceToNat, Int.reduceNeg, Int.reduceSub, Int.reduceAdd]
  refine callH (over_c h7 (i := 1) (t := tY.ended) rfl rfl) ?_
  rintro _ H8 n8 ⟨rfl, rfl, rfl⟩
  simp only [push_cast, Nat.reduceBEq, Nat.reduceAdd, Nat.reduceEqDiff, reduceCtorEq, Nat.reduceLeDiff, Nat.reduceSub, Nat.reduceMul, Nat.reduceLT, Int.reduceEq, Int.reduceLT, Int.reduceLE, Int.reduceBEq, Int.reduceBNe, Int.reduceToNat, Int.reduceNeg, Int.reduceSub, Int.reduceAdd]
  dsimp only at k1 hn2 k2
  have q1 : ∀ j, j < n → H1 j = H j ∧ ¬ (fun j => n ≤ j ∧ j < n + 4) j := fun j hj => ⟨k1 j hj, fun hh => by have := hh.1; omega⟩
  have q2 := chain_c q1 (by omega) k2
  have q3 := chain_c q2 (by omega) k3
  have q4 := chain_c q3 (by omega) k4
  have q5 := chain_c q4 (by omega) k5
  have q6 := chain_c q5 (by omega) k6
  have q7 := chain_c q6 (by omega) k7
  exact ⟨rfl, by omega, fun j hj => (q7 j hj).1⟩
end Go.Proofs.Ytnaiaacgcjikiaa
