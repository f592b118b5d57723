/- Chapter 9's statement BatchLast, by the walk over a heap. -/
import Derived.Test.YtmgpfckkafcllaaDocLast
set_option linter.unusedVariables false
set_option linter.unusedSimpArgs false
namespace Go.Proofs.Ytmgpfckkafcllaa
open Go Go.RowKit Hv
set_option maxRecDepth 20000
set_option maxHeartbeats 8000000
theorem noId_ops (l : List OpD) : NoId (.sl (l.map opI)) := by simp [noId_sl, opI, noId_lit]
theorem docLast_mem {ops : List OpD} {x : OpD} (h : x ∈ docLast ops) : x ∈ ops := (lastOf_key (((docLast_spec ops).2 x).1 h)).2
theorem BatchLast_h (ops : List OpD) (hs : ∀ o ∈ ops, o.key.size ≤ 140737488355328) : Hv.ACalls Try.prog 7 [.sl (ops.map opI)] (.lit (.bool true)) := by
  refine acallsC_of (rs := [.tmp 2]) ⟨[0, 2, 3, 4, 5, 6, 13, 29, 33, 51], [], [], [(9, [(0, [], []), (1, [], []), (2, [], []), (3, [], []), (4, [], []), (5, [], []), (6, [], []), (7, [], []), (8, [], []), (9, [], []), (10, [], []), (11, [], []), (12, [], []), (13, [], []), (14, [], []), (15, [], [])])]⟩ TOk mixed Try.func7 rfl rfl (by kernel_rfl) (by kernel_rfl) rfl (by simp [noId_ops]) (.lit _) ?_
  simp only [push_cast, Nat.reduceBEq, Nat.reduceAdd, Nat.reduceEqDiff, reduceCtorEq, Nat.reduceLeDiff, Nat.reduceSub, Nat.reduceMul, Nat.reduceLT, Int.reduceEq, Int.reduceLT, Int.reduceLE, Int.reduceBEq, Int.reduceBNe, Int.reduceToNat, Int.reduceNeg, Int.reduceSub, Int.reduceAdd]
  refine callK batched_h ?_
  by_cases hl : (ops.length : Int) > 400
  · simp only [push_cast, Nat.reduceBEq, Nat.reduceAdd, Nat.reduceEqDiff, reduceCtorEq, Nat.reduceLeDiff, Nat.reduceSub, Nat.reduceMul, Nat.reduceLT, Int.reduceEq, Int.reduceLT, Int.reduceLE, Int.reduceBEq, Int.reduceBNe, Int.reduceToNat, Int.reduceNeg, Int.reduceSub, Int.reduceAdd, hl]
    refine callK batched_h ?_
    simp only [push_cast, Nat.reduceBEq, Nat.reduceAdd, Nat.reduceEqDiff, reduceCtorEq, Nat.reduceLeDiff, Nat.reduceSub, Nat.reduceMul, Nat.reduceLT, Int.reduceEq, Int.reduceLT, Int.reduceLE, Int.reduceBEq, Int.reduceBNe, Int.reduceToNat, Int.reduceNeg, Int.reduceSub, Int.reduceAdd]
  · have hl' : ops.length ≤ 400 := by omega
    have hdl := docLast_len ops
    have hsd : ∀ o ∈ docLast ops, o.key.size ≤ 140737488355328 := fun o ho => hs o (docLast_mem ho)
    simp only [push_cast, Nat.reduceBEq, Nat.reduceAdd, Nat.reduceEqDiff, reduceCtorEq, Nat.reduceLeDiff, Nat.reduceSub, Nat.reduceMul, Nat.reduceLT, Int.reduceEq, Int.reduceLT, Int.reduceLE, Int.reduceBEq, Int.reduceBNe, Int.reduceToNat, Int.reduceNeg, Int.reduceSub, Int.reduceAdd, hl]
    refine callH (DocLast_h ops (by omega)) ?_
    rintro _ H1 n1 ⟨g1, rfl, ha1, hb1, hg1, hk1⟩
    try dsimp only at ha1 hb1 hg1 hk1
    simp only [push_cast, Nat.reduceBEq, Nat.reduceAdd, Nat.reduceEqDiff, reduceCtorEq, Nat.reduceLeDiff, Nat.reduceSub, Nat.reduceMul, Nat.reduceLT, Int.reduceEq, Int.reduceLT, Int.reduceLE, Int.reduceBEq, Int.reduceBNe, Int.reduceToNat, Int.reduceNeg, Int.reduceSub, Int.reduceAdd]
    refine callH (Last_s ops (by omega) hs) ?_
    rintro _ H2 n2 ⟨g2, rfl, ha2, hb2, hg2, hk2⟩
    try dsimp only at ha2 hb2 hg2 hk2
    have hg1' := (hk2 g1 hb1).trans hg1
    simp only [push_cast, Nat.reduceBEq, Nat.reduceAdd, Nat.reduceEqDiff, reduceCtorEq, Nat.reduceLeDiff, Nat.reduceSub, Nat.reduceMul, Nat.reduceLT, Int.reduceEq, Int.reduceLT, Int.reduceLE, Int.reduceBEq, Int.reduceBNe, Int.reduceToNat, Int.reduceNeg, Int.reduceSub, Int.reduceAdd]
    refine callH (Ops_refl (.inr ⟨g1, rfl, hg1'⟩) (.inr ⟨g2, rfl, hg2⟩) (by omega)) ?_
    rintro _ _ _ ⟨rfl, rfl, rfl⟩
    simp only [push_cast, Nat.reduceBEq, Nat.reduceAdd, Nat.reduceEqDiff, reduceCtorEq, Nat.reduceLeDiff, Nat.reduceSub, Nat.reduceMul, Nat.reduceLT, Int.reduceEq, Int.reduceLT, Int.reduceLE, Int.reduceBEq, Int.reduceBNe, Int.reduceToNat, Int.reduceNeg, Int.reduceSub, Int.reduceAdd]
    refine callH (Last_h (.inr ⟨g2, rfl, hg2⟩) (fun g e => by injection e with e1 e2 e3 e4; rw [← e1]; exact hb2) (by omega) hsd) ?_
    rintro _ H3 n3 ⟨g3, hr3, ha3, hb3, hg3, hk3⟩
    rw [docLast_again] at hr3 hg3
    subst hr3
    try dsimp only at ha3 hb3 hg3 hk3
    have hg2' := (hk3 g2 hb2).trans hg2
    simp only [push_cast, Nat.reduceBEq, Nat.reduceAdd, Nat.reduceEqDiff, reduceCtorEq, Nat.reduceLeDiff, Nat.reduceSub, Nat.reduceMul, Nat.reduceLT, Int.reduceEq, Int.reduceLT, Int.reduceLE, Int.reduceBEq, Int.reduceBNe, Int.reduceToNat, Int.reduceNeg, Int.reduceSub, Int.reduceAdd]
    refine callH (Ops_refl (.inr ⟨g3, rfl, hg3⟩) (.inr ⟨g2, rfl, hg2'⟩) (by omega)) ?_
    rintro _ H4 n4 ⟨rfl, rfl, rfl⟩
    obtain ⟨hS, _⟩ := docLast_spec ops
    obtain ⟨L, hL⟩ : ∃ L, docLast ops = L := ⟨_, rfl⟩
    rw [hL] at hS hg2' hdl
    simp only [push_cast, Nat.reduceBEq, Nat.reduceAdd, Nat.reduceEqDiff, reduceCtorEq, Nat.reduceLeDiff, Nat.reduceSub, Nat.reduceMul, Nat.reduceLT, Int.reduceEq, Int.reduceLT, Int.reduceLE, Int.reduceBEq, Int.reduceBNe, Int.reduceToNat, Int.reduceNeg, Int.reduceSub, Int.reduceAdd, hL]
    refine loopK (fun q s => ∃ (k : Nat), s = ⟨[(0, .sl (ops.map opI)), (4, .rw g2 3 0 L.length), (5, .lit (.int .i64 (k : Int)))], H4, n4⟩ ∧ k ≤ L.length ∧ q = L.length - k) _ [0, 4, 5] ⟨0, rfl, Nat.zero_le _, rfl⟩ ?_
    rintro q _ ⟨k, rfl, hk, rfl⟩
    by_cases hkL : k < L.length
    · obtain ⟨x, hx⟩ : ∃ x, L[k]? = some x := ⟨_, List.getElem?_eq_getElem hkL⟩
      have hw := wrap_nat0 (k := k) (by omega)
      have hkL' : (k : Int) < (L.length : Int) := by omega
      rcases Nat.eq_zero_or_pos k with hk0 | hk0
      · subst hk0
        have z0 : ¬ (0 : Int) > 0 := by omega
        have hw0 : IntKind.i64.wrap ((0 : Int) + 1) = ((0 + 1 : Nat) : Int) := by decide
        have hkL0 : (0 : Int) < (L.length : Int) := by omega
        simp (maxSteps := 200000) only [push_cast, Nat.reduceBEq, Nat.reduceAdd, Nat.reduceEqDiff, reduceCtorEq, Nat.reduceLeDiff, Nat.reduceSub, Nat.reduceMul, Nat.reduceLT, Int.reduceEq, Int.reduceLT, Int.reduceLE, Int.reduceBEq, Int.reduceBNe, Int.reduceToNat, Int.reduceNeg, Int.reduceSub, Int.reduceAdd, hkL, hkL0, z0, hw, hw0]
        exact ⟨_, by omega, 1, rfl, by omega, rfl⟩
      · have z1 : (k : Int) > 0 := by omega
        obtain ⟨j, hj⟩ : ∃ j, k = j + 1 := ⟨k - 1, by omega⟩
        have hwj : IntKind.i64.wrap ((k : Int) - 1) = (j : Int) := by rw [show (k : Int) - 1 = (j : Int) by omega]; exact IntWalk.i64_in _ (by omega)
        have hjL : j < L.length := by omega
        have hjL' : (j : Int) < (L.length : Int) := by omega
        obtain ⟨y, hy⟩ : ∃ y, L[j]? = some y := ⟨_, List.getElem?_eq_getElem hjL⟩
        have hyx : Op.bytesLess y.key.toList x.key.toList = true := by
          obtain ⟨h1, h2⟩ := List.getElem?_eq_some_iff.1 hy
          obtain ⟨h3, h4⟩ := List.getElem?_eq_some_iff.1 hx
          have := List.pairwise_iff_getElem.1 hS j k h1 h3 (by omega)
          rw [h2, h4] at this; exact this
        simp (maxSteps := 200000) only [push_cast, Nat.reduceBEq, Nat.reduceAdd, Nat.reduceEqDiff, reduceCtorEq, Nat.reduceLeDiff, Nat.reduceSub, Nat.reduceMul, Nat.reduceLT, Int.reduceEq, Int.reduceLT, Int.reduceLE, Int.reduceBEq, Int.reduceBNe, Int.reduceToNat, Int.reduceNeg, Int.reduceSub, Int.reduceAdd, hkL, hkL', z1, hwj, hjL, hjL', hx, hy, hyx, hg2', ops_ble, ops_take, opI, hw]
        exact ⟨_, by omega, k + 1, rfl, by omega, rfl⟩
    · have hpi : (∀ it ∈ ops.map opI, it.length = 3) = True := eq_true fun it hit => by obtain ⟨z, _, rfl⟩ := List.mem_map.1 hit; rfl
      have hpj : (∀ it ∈ ops.map opI, it.length = 3 ∧ it.all AV.isOne = true) = True := eq_true fun it hit => by obtain ⟨z, _, rfl⟩ := List.mem_map.1 hit; exact ⟨rfl, rfl⟩
      have q1 : ops.length * 40 ≤ 140737488355328 := by omega
      have q2 : (ops.length + ops.length) * 40 ≤ 140737488355328 := by omega
      simp (maxSteps := 200000) only [push_cast, Nat.reduceBEq, Nat.reduceAdd, Nat.reduceEqDiff, reduceCtorEq, Nat.reduceLeDiff, Nat.reduceSub, Nat.reduceMul, Nat.reduceLT, Int.reduceEq, Int.reduceLT, Int.reduceLE, Int.reduceBEq, Int.reduceBNe, Int.reduceToNat, Int.reduceNeg, Int.reduceSub, Int.reduceAdd, hkL, hpi, hpj, q1, q2, List.not_mem_nil, false_implies, List.length_map]
      have hlen2 : ops.length + ops.length = (ops ++ ops).length := List.length_append.symm
      have hmap2 : List.map opI ops ++ List.map opI ops = List.map opI (ops ++ ops) := List.map_append.symm
      rw [hlen2, hmap2]
      have hs2 : ∀ o ∈ ops ++ ops, o.key.size ≤ 140737488355328 := fun o ho => (List.mem_append.1 ho).elim (hs o) (hs o)
      have hb2' : g2 < n4 := by omega
      refine callH (Last_h (n := n4 + 1 + 1 + 1) (.inr ⟨n4 + 1 + 1, rfl, upd_same _ _ _⟩) (fun g e => by injection e with e1 e2 e3 e4; omega) (by rw [← hlen2]; omega) hs2) ?_
      rintro _ H5 n5 ⟨g5, hr5, ha5, hb5, hg5, hk5⟩
      rw [docLast_twice, hL] at hr5 hg5
      subst hr5
      have hg25 : H5 g2 = some (.row false 24 (L.map opI)) := (hk5 g2 (by omega)).trans ((upd_other (by omega)).trans ((upd_other (by omega)).trans ((upd_other (by omega)).trans ((upd_other (by omega)).trans ((upd_other (by omega)).trans hg2')))))
      simp only [push_cast, Nat.reduceBEq, Nat.reduceAdd, Nat.reduceEqDiff, reduceCtorEq, Nat.reduceLeDiff, Nat.reduceSub, Nat.reduceMul, Nat.reduceLT, Int.reduceEq, Int.reduceLT, Int.reduceLE, Int.reduceBEq, Int.reduceBNe, Int.reduceToNat, Int.reduceNeg, Int.reduceSub, Int.reduceAdd]
      refine callH (Ops_refl (.inr ⟨g5, rfl, hg5⟩) (.inr ⟨g2, rfl, hg25⟩) (by omega)) ?_
      rintro _ H6 n6 ⟨rfl, rfl, rfl⟩
      simp only [push_cast, Nat.reduceBEq, Nat.reduceAdd, Nat.reduceEqDiff, reduceCtorEq, Nat.reduceLeDiff, Nat.reduceSub, Nat.reduceMul, Nat.reduceLT, Int.reduceEq, Int.reduceLT, Int.reduceLE, Int.reduceBEq, Int.reduceBNe, Int.reduceToNat, Int.reduceNeg, Int.reduceSub, Int.reduceAdd]
end Go.Proofs.Ytmgpfckkafcllaa
