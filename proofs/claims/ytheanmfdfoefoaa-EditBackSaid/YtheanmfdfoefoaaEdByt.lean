/- Chapter 17's statements: EditBytes and EditBack, by the walk over a heap. -/
import Derived.Test.YtheanmfdfoefoaaEdLaws
import Derived.Test.YtheanmfdfoefoaaEdRefD
import Derived.Test.YtheanmfdfoefoaaByP
set_option linter.unusedVariables false
set_option linter.unusedSimpArgs false
namespace Go.Proofs.Ytheanmfdfoefoaa
open Go Go.RowKit Hv
set_option maxRecDepth 20000
set_option maxHeartbeats 8000000
theorem EditBytes_h (e : EdD) (b : List UInt8) : Hv.ACalls Try.prog 12 [edH e, .sl (byL b)] (.lit (.bool true)) := by
  refine acallsC_of (rs := [.tmp 4]) ⟨[0, 1, 2, 4, 5, 6, 7, 8, 9, 10, 11, 12, 27], [], [], [(7, [(0, [], []), (1, [], []), (2, [], []), (3, [], []), (4, [], []), (5, [], []), (6, [], []), (7, [], []), (8, [], []), (9, [], []), (10, [], []), (11, [], []), (12, [], []), (13, [], []), (14, [], []), (15, [13], [14, 12, 11, 7, 10, 6, 1, 8, 9, 5, 0, 2, 4, 3]), (16, [], [13, 15, 12, 14, 11, 7, 10, 6, 1, 8, 9, 5, 0, 2, 4, 3]), (17, [], []), (18, [], []), (19, [], []), (20, [], []), (21, [], []), (22, [], []), (23, [], [22, 18, 0, 1, 2, 3, 4, 5, 6, 7, 8, 9, 10, 11, 12, 13, 14, 15, 16, 17, 19, 20, 21])])], []⟩ TOk mixed Try.func12 rfl rfl (by kernel_rfl) (by kernel_rfl) rfl (nid2 (noId_ed e) (noId_by b)) (.lit _) ?_
  have hl := byL_len b
  by_cases h1 : 50000 < b.length
  · have q1 : ((byL b).length : Int) > 50000 := by rw [hl]; omega
    simp only [push_cast, Nat.reduceBEq, Nat.reduceAdd, Nat.reduceEqDiff, reduceCtorEq, Nat.reduceLeDiff, Nat.reduceSub, Nat.reduceMul, Nat.reduceLT, Int.reduceEq, Int.reduceLT, Int.reduceLE, Int.reduceBEq, Int.reduceBNe, Int.reduceToNat, Int.reduceNeg, Int.reduceSub, Int.reduceAdd, edH, q1]
    refine callK edits_h ?_
    simp only [push_cast, Nat.reduceBEq, Nat.reduceAdd, Nat.reduceEqDiff, reduceCtorEq, Nat.reduceLeDiff, Nat.reduceSub, Nat.reduceMul, Nat.reduceLT, Int.reduceEq, Int.reduceLT, Int.reduceLE, Int.reduceBEq, Int.reduceBNe, Int.reduceToNat, Int.reduceNeg, Int.reduceSub, Int.reduceAdd]
  have q1 : ¬ ((byL b).length : Int) > 50000 := by rw [hl]; omega
  by_cases h2 : 1500 < e.gone.length
  · have q2 : (e.gone.length : Int) > 1500 := by omega
    simp only [push_cast, Nat.reduceBEq, Nat.reduceAdd, Nat.reduceEqDiff, reduceCtorEq, Nat.reduceLeDiff, Nat.reduceSub, Nat.reduceMul, Nat.reduceLT, Int.reduceEq, Int.reduceLT, Int.reduceLE, Int.reduceBEq, Int.reduceBNe, Int.reduceToNat, Int.reduceNeg, Int.reduceSub, Int.reduceAdd, edH, q1, q2]
    refine callK edits_h ?_
    simp only [push_cast, Nat.reduceBEq, Nat.reduceAdd, Nat.reduceEqDiff, reduceCtorEq, Nat.reduceLeDiff, Nat.reduceSub, Nat.reduceMul, Nat.reduceLT, Int.reduceEq, Int.reduceLT, Int.reduceLE, Int.reduceBEq, Int.reduceBNe, Int.reduceToNat, Int.reduceNeg, Int.reduceSub, Int.reduceAdd]
  have q2 : ¬ (e.gone.length : Int) > 1500 := by omega
  by_cases h3 : 1500 < e.new.length
  · have q3 : (e.new.length : Int) > 1500 := by omega
    simp only [push_cast, Nat.reduceBEq, Nat.reduceAdd, Nat.reduceEqDiff, reduceCtorEq, Nat.reduceLeDiff, Nat.reduceSub, Nat.reduceMul, Nat.reduceLT, Int.reduceEq, Int.reduceLT, Int.reduceLE, Int.reduceBEq, Int.reduceBNe, Int.reduceToNat, Int.reduceNeg, Int.reduceSub, Int.reduceAdd, edH, q1, q2, q3]
    refine callK edits_h ?_
    simp only [push_cast, Nat.reduceBEq, Nat.reduceAdd, Nat.reduceEqDiff, reduceCtorEq, Nat.reduceLeDiff, Nat.reduceSub, Nat.reduceMul, Nat.reduceLT, Int.reduceEq, Int.reduceLT, Int.reduceLE, Int.reduceBEq, Int.reduceBNe, Int.reduceToNat, Int.reduceNeg, Int.reduceSub, Int.reduceAdd]
  have q3 : ¬ (e.new.length : Int) > 1500 := by omega
  have hto := to_h e (by omega) (by omega)
  have hdD := docDecode_h b (by omega)
  have hdE := decode_h b (by omega)
  rw [dec_same] at hdD
  obtain ⟨D, hD⟩ : ∃ D, (decE b) = D := ⟨_, rfl⟩
  rw [hD] at hdD hdE
  have hlenD : D.1.gone.length ≤ 1000000 ∧ D.1.new.length ≤ 1000000 := by
    rw [← hD]
    rcases decE_err b with h | h
    · obtain ⟨_, _, _, d1, d2, _⟩ := right_three (decE_ok h).1
      omega
    · rw [h]; exact ⟨Nat.zero_le _, Nat.zero_le _⟩
  have hfr := from_h D.1 hlenD.1 hlenD.2
  have hsm := SameEdit_refl D.1 hlenD.1 hlenD.2
  obtain ⟨x, fx, y, hx, hy⟩ : ∃ (x : List UInt8) (fx : Int) (y : AV), Hv.ACalls Try.prog 48 [edH e] (.tup [.lit (.string (str x)), .lit (.int .i64 fx)]) ∧ Hv.ACalls Try.prog 49 [edH e] (.tup [.sl (byL x), .lit (.int .i64 fx)]) := by
    cases hr : rightB e with
    | true => exact ⟨_, _, .dead, docEncode_yes e hr, encode_yes e hr⟩
    | false => exact ⟨[], _, .dead, docEncode_no e hr, encode_no e hr⟩
  simp only [push_cast, Nat.reduceBEq, Nat.reduceAdd, Nat.reduceEqDiff, reduceCtorEq, Nat.reduceLeDiff, Nat.reduceSub, Nat.reduceMul, Nat.reduceLT, Int.reduceEq, Int.reduceLT, Int.reduceLE, Int.reduceBEq, Int.reduceBNe, Int.reduceToNat, Int.reduceNeg, Int.reduceSub, Int.reduceAdd, edH, q1, q2, q3]
  unfold edH at hx hy hto hfr hsm hdD hdE
  refine callK hx ?_
  simp only [push_cast, Nat.reduceBEq, Nat.reduceAdd, Nat.reduceEqDiff, reduceCtorEq, Nat.reduceLeDiff, Nat.reduceSub, Nat.reduceMul, Nat.reduceLT, Int.reduceEq, Int.reduceLT, Int.reduceLE, Int.reduceBEq, Int.reduceBNe, Int.reduceToNat, Int.reduceNeg, Int.reduceSub, Int.reduceAdd]
  refine callK hto ?_
  simp only [push_cast, Nat.reduceBEq, Nat.reduceAdd, Nat.reduceEqDiff, reduceCtorEq, Nat.reduceLeDiff, Nat.reduceSub, Nat.reduceMul, Nat.reduceLT, Int.reduceEq, Int.reduceLT, Int.reduceLE, Int.reduceBEq, Int.reduceBNe, Int.reduceToNat, Int.reduceNeg, Int.reduceSub, Int.reduceAdd]
  refine callK hy ?_
  simp only [push_cast, Nat.reduceBEq, Nat.reduceAdd, Nat.reduceEqDiff, reduceCtorEq, Nat.reduceLeDiff, Nat.reduceSub, Nat.reduceMul, Nat.reduceLT, Int.reduceEq, Int.reduceLT, Int.reduceLE, Int.reduceBEq, Int.reduceBNe, Int.reduceToNat, Int.reduceNeg, Int.reduceSub, Int.reduceAdd, bytesOf_byL, strOf_byL]
  refine callK hdD ?_
  simp only [push_cast, Nat.reduceBEq, Nat.reduceAdd, Nat.reduceEqDiff, reduceCtorEq, Nat.reduceLeDiff, Nat.reduceSub, Nat.reduceMul, Nat.reduceLT, Int.reduceEq, Int.reduceLT, Int.reduceLE, Int.reduceBEq, Int.reduceBNe, Int.reduceToNat, Int.reduceNeg, Int.reduceSub, Int.reduceAdd, edH]
  refine callK hdE ?_
  simp only [push_cast, Nat.reduceBEq, Nat.reduceAdd, Nat.reduceEqDiff, reduceCtorEq, Nat.reduceLeDiff, Nat.reduceSub, Nat.reduceMul, Nat.reduceLT, Int.reduceEq, Int.reduceLT, Int.reduceLE, Int.reduceBEq, Int.reduceBNe, Int.reduceToNat, Int.reduceNeg, Int.reduceSub, Int.reduceAdd, edH]
  refine callD edits_h ?_
  simp only [push_cast, Nat.reduceBEq, Nat.reduceAdd, Nat.reduceEqDiff, reduceCtorEq, Nat.reduceLeDiff, Nat.reduceSub, Nat.reduceMul, Nat.reduceLT, Int.reduceEq, Int.reduceLT, Int.reduceLE, Int.reduceBEq, Int.reduceBNe, Int.reduceToNat, Int.reduceNeg, Int.reduceSub, Int.reduceAdd, bytesOf_byL, strOf_byL, str]
  refine callD hfr ?_
  simp only [push_cast, Nat.reduceBEq, Nat.reduceAdd, Nat.reduceEqDiff, reduceCtorEq, Nat.reduceLeDiff, Nat.reduceSub, Nat.reduceMul, Nat.reduceLT, Int.reduceEq, Int.reduceLT, Int.reduceLE, Int.reduceBEq, Int.reduceBNe, Int.reduceToNat, Int.reduceNeg, Int.reduceSub, Int.reduceAdd]
  refine callD hsm ?_
  simp only [push_cast, Nat.reduceBEq, Nat.reduceAdd, Nat.reduceEqDiff, reduceCtorEq, Nat.reduceLeDiff, Nat.reduceSub, Nat.reduceMul, Nat.reduceLT, Int.reduceEq, Int.reduceLT, Int.reduceLE, Int.reduceBEq, Int.reduceBNe, Int.reduceToNat, Int.reduceNeg, Int.reduceSub, Int.reduceAdd]
theorem edE_len {e : EdD} (hr : rightB e = true) : (edE e).length ≤ 2000000 := by
  obtain ⟨_, _, _, d1, d2, h2, h3⟩ := right_three hr
  have a1 : (hdE e).length ≤ 33 := flatMap_le (c := 11) (zsE e) fun x _ => putB_length _
  have a2 : (e.gone.flatMap plE).length ≤ e.gone.length * 22 := flatMap_le e.gone fun x _ => flat_len [x.level.toNat, x.file.toNat]
  have a3 : (e.new.flatMap adE).length ≤ e.new.length * 300 := flatMap_le e.new fun x hx => by
    obtain ⟨_, _, _, _, _, _, q1, q2⟩ := right_ad (h3 x hx)
    have h1 := flat_len [x.level.toNat, x.t.file.toNat, x.t.size.toNat]
    have h2 := textB_le q1
    have h3 := textB_le q2
    unfold adE
    simp only [List.length_append, List.length_cons, List.length_nil] at h1 ⊢
    omega
  have p4 := putB_length e.gone.length
  have p5 := putB_length e.new.length
  unfold edE
  simp only [List.length_append]
  omega
theorem EditBack_h (e : EdD) (b : List UInt8) : Hv.ACalls Try.prog 13 [edH e, .sl (byL b)] (.lit (.bool true)) := by
  refine acallsC_of (rs := [.tmp 4]) ⟨[0, 1, 2, 4, 5, 6, 7, 8, 10, 12, 13, 14, 15, 16, 35, 44, 84, 91], [], [], [(8, [(0, [], []), (1, [], []), (2, [], []), (3, [], []), (5, [], []), (4, [5], [3, 2, 1, 0]), (6, [], [4, 5, 2, 3, 1, 0]), (7, [], []), (8, [], []), (9, [], []), (10, [], []), (11, [], []), (12, [], []), (13, [], []), (14, [], []), (15, [], []), (16, [], [])])], [10]⟩ TOk mixed Try.func13 rfl rfl (by kernel_rfl) (by kernel_rfl) rfl (nid2 (noId_ed e) (noId_by b)) (.lit _) ?_
  have hl := byL_len b
  simp only [push_cast, Nat.reduceBEq, Nat.reduceAdd, Nat.reduceEqDiff, reduceCtorEq, Nat.reduceLeDiff, Nat.reduceSub, Nat.reduceMul, Nat.reduceLT, Int.reduceEq, Int.reduceLT, Int.reduceLE, Int.reduceBEq, Int.reduceBNe, Int.reduceToNat, Int.reduceNeg, Int.reduceSub, Int.reduceAdd, edH]
  refine callK edits_h ?_
  by_cases h1 : 50000 < b.length
  · have q1 : ((byL b).length : Int) > 50000 := by rw [hl]; omega
    simp only [push_cast, Nat.reduceBEq, Nat.reduceAdd, Nat.reduceEqDiff, reduceCtorEq, Nat.reduceLeDiff, Nat.reduceSub, Nat.reduceMul, Nat.reduceLT, Int.reduceEq, Int.reduceLT, Int.reduceLE, Int.reduceBEq, Int.reduceBNe, Int.reduceToNat, Int.reduceNeg, Int.reduceSub, Int.reduceAdd, edH, q1]
    refine callK edits_h ?_
    simp only [push_cast, Nat.reduceBEq, Nat.reduceAdd, Nat.reduceEqDiff, reduceCtorEq, Nat.reduceLeDiff, Nat.reduceSub, Nat.reduceMul, Nat.reduceLT, Int.reduceEq, Int.reduceLT, Int.reduceLE, Int.reduceBEq, Int.reduceBNe, Int.reduceToNat, Int.reduceNeg, Int.reduceSub, Int.reduceAdd]
  have q1 : ¬ ((byL b).length : Int) > 50000 := by rw [hl]; omega
  by_cases h2 : 1500 < e.gone.length
  · have q2 : (e.gone.length : Int) > 1500 := by omega
    simp only [push_cast, Nat.reduceBEq, Nat.reduceAdd, Nat.reduceEqDiff, reduceCtorEq, Nat.reduceLeDiff, Nat.reduceSub, Nat.reduceMul, Nat.reduceLT, Int.reduceEq, Int.reduceLT, Int.reduceLE, Int.reduceBEq, Int.reduceBNe, Int.reduceToNat, Int.reduceNeg, Int.reduceSub, Int.reduceAdd, edH, q1, q2]
    refine callK edits_h ?_
    simp only [push_cast, Nat.reduceBEq, Nat.reduceAdd, Nat.reduceEqDiff, reduceCtorEq, Nat.reduceLeDiff, Nat.reduceSub, Nat.reduceMul, Nat.reduceLT, Int.reduceEq, Int.reduceLT, Int.reduceLE, Int.reduceBEq, Int.reduceBNe, Int.reduceToNat, Int.reduceNeg, Int.reduceSub, Int.reduceAdd]
  have q2 : ¬ (e.gone.length : Int) > 1500 := by omega
  by_cases h3 : 1500 < e.new.length
  · have q3 : (e.new.length : Int) > 1500 := by omega
    simp only [push_cast, Nat.reduceBEq, Nat.reduceAdd, Nat.reduceEqDiff, reduceCtorEq, Nat.reduceLeDiff, Nat.reduceSub, Nat.reduceMul, Nat.reduceLT, Int.reduceEq, Int.reduceLT, Int.reduceLE, Int.reduceBEq, Int.reduceBNe, Int.reduceToNat, Int.reduceNeg, Int.reduceSub, Int.reduceAdd, edH, q1, q2, q3]
    refine callK edits_h ?_
    simp only [push_cast, Nat.reduceBEq, Nat.reduceAdd, Nat.reduceEqDiff, reduceCtorEq, Nat.reduceLeDiff, Nat.reduceSub, Nat.reduceMul, Nat.reduceLT, Int.reduceEq, Int.reduceLT, Int.reduceLE, Int.reduceBEq, Int.reduceBNe, Int.reduceToNat, Int.reduceNeg, Int.reduceSub, Int.reduceAdd]
  have q3 : ¬ (e.new.length : Int) > 1500 := by omega
  have hto := to_h e (by omega) (by omega)
  have hfr := from_h e (by omega) (by omega)
  have hsm := SameEdit_refl e (by omega) (by omega)
  unfold edH at hto hfr hsm
  simp only [push_cast, Nat.reduceBEq, Nat.reduceAdd, Nat.reduceEqDiff, reduceCtorEq, Nat.reduceLeDiff, Nat.reduceSub, Nat.reduceMul, Nat.reduceLT, Int.reduceEq, Int.reduceLT, Int.reduceLE, Int.reduceBEq, Int.reduceBNe, Int.reduceToNat, Int.reduceNeg, Int.reduceSub, Int.reduceAdd, edH, q1, q2, q3]
  obtain ⟨x, fx, hy, hx⟩ : ∃ (x : List UInt8) (fx : Int), Hv.ACalls Try.prog 49 [edH e] (.tup [.sl (byL x), .lit (.int .i64 fx)]) ∧ ((rightB e = true ∧ fx = 0 ∧ x = edE e) ∨ fx = 2) := by
    cases hr : rightB e with
    | true => exact ⟨_, _, encode_yes e hr, .inl ⟨rfl, rfl, rfl⟩⟩
    | false => exact ⟨[], _, encode_no e hr, .inr rfl⟩
  unfold edH at hy
  refine callK hto ?_
  simp only [push_cast, Nat.reduceBEq, Nat.reduceAdd, Nat.reduceEqDiff, reduceCtorEq, Nat.reduceLeDiff, Nat.reduceSub, Nat.reduceMul, Nat.reduceLT, Int.reduceEq, Int.reduceLT, Int.reduceLE, Int.reduceBEq, Int.reduceBNe, Int.reduceToNat, Int.reduceNeg, Int.reduceSub, Int.reduceAdd]
  refine callK hy ?_
  simp only [push_cast, Nat.reduceBEq, Nat.reduceAdd, Nat.reduceEqDiff, reduceCtorEq, Nat.reduceLeDiff, Nat.reduceSub, Nat.reduceMul, Nat.reduceLT, Int.reduceEq, Int.reduceLT, Int.reduceLE, Int.reduceBEq, Int.reduceBNe, Int.reduceToNat, Int.reduceNeg, Int.reduceSub, Int.reduceAdd]
  refine cutK (fun s => ∃ (nx : Nat) (H : Hp), 1 ≤ nx ∧ s = ⟨[(1, .sl (byL b))], H, nx⟩) [1] ?_ ?_
  · rcases hx with ⟨hr, rfl, rfl⟩ | rfl
    · have hE := edE_len hr
      have d1 := decode_h (edE e) (by omega)
      have d2 := decode_h ((edE e).take ((edE e).length - 1)) (by rw [List.length_take]; omega)
      have d3 := decode_h (edE e ++ [0]) (by rw [List.length_append]; simp; omega)
      rw [decE_put hr] at d1
      rw [decE_less hr] at d2
      rw [decE_more hr] at d3
      unfold edH at d1 d2 d3
      simp only [push_cast, Nat.reduceBEq, Nat.reduceAdd, Nat.reduceEqDiff, reduceCtorEq, Nat.reduceLeDiff, Nat.reduceSub, Nat.reduceMul, Nat.reduceLT, Int.reduceEq, Int.reduceLT, Int.reduceLE, Int.reduceBEq, Int.reduceBNe, Int.reduceToNat, Int.reduceNeg, Int.reduceSub, Int.reduceAdd]
      refine callK d1 ?_
      have hpos : 0 < (edE e).length := by
        have := putB_pos e.gone.length
        unfold edE
        simp only [List.length_append]; omega
      obtain ⟨m, hm⟩ : ∃ m, (edE e).length = m + 1 := ⟨(edE e).length - 1, by omega⟩
      have hlE : (byL (edE e)).length = m + 1 := by rw [byL_len, hm]
      have hwm : IntKind.i64.wrap ((m : Int) + 1 - 1) = (m : Int) := by
        rw [show (m : Int) + 1 - 1 = (m : Int) by omega]; exact IntWalk.i64_in _ (by omega)
      have hm1 : (m : Int) ≤ (m : Int) + 1 := by omega
      have hm2 : m ≤ m + 1 := by omega
      have hm3 : m + 1 ≤ 140737488355328 := by omega
      have hm4 : m + 1 + 1 ≤ 140737488355328 := by omega
      rw [hm, Nat.add_sub_cancel] at d2
      simp only [push_cast, Nat.reduceBEq, Nat.reduceAdd, Nat.reduceEqDiff, reduceCtorEq, Nat.reduceLeDiff, Nat.reduceSub, Nat.reduceMul, Nat.reduceLT, Int.reduceEq, Int.reduceLT, Int.reduceLE, Int.reduceBEq, Int.reduceBNe, Int.reduceToNat, Int.reduceNeg, Int.reduceSub, Int.reduceAdd, hlE, hwm, hm1, hm2, byL_one, byL_take, byL_drop]
      refine callK d2 ?_
      simp only [push_cast, Nat.reduceBEq, Nat.reduceAdd, Nat.reduceEqDiff, reduceCtorEq, Nat.reduceLeDiff, Nat.reduceSub, Nat.reduceMul, Nat.reduceLT, Int.reduceEq, Int.reduceLT, Int.reduceLE, Int.reduceBEq, Int.reduceBNe, Int.reduceToNat, Int.reduceNeg, Int.reduceSub, Int.reduceAdd, hlE, hm3, hm4, byL_one, List.not_mem_nil, false_implies, implies_true]
      have ht : byL (edE e) ++ [[AV.lit (.int .u8 0)]] = byL (edE e ++ [0]) := by rw [byL_append]; rfl
      have ht1 : (byL (edE e ++ [0])).length = m + 1 + 1 := by rw [byL_len, List.length_append, hm]; rfl
      have ht2 : (byL (edE e ++ [0])).take (m + 1 + 1) = byL (edE e ++ [0]) := List.take_of_length_le (by omega)
      refine callK (by simp only [push_cast, Nat.reduceBEq, Nat.reduceAdd, Nat.reduceEqDiff, reduceCtorEq, Nat.reduceLeDiff, Nat.reduceSub, Nat.reduceMul, Nat.reduceLT, Int.reduceEq, Int.reduceLT, Int.reduceLE, Int.reduceBEq, Int.reduceBNe, Int.reduceToNat, Int.reduceNeg, Int.reduceSub, Int.reduceAdd, ht, ht1, ht2]; exact d3) ?_
      simp only [push_cast, Nat.reduceBEq, Nat.reduceAdd, Nat.reduceEqDiff, reduceCtorEq, Nat.reduceLeDiff, Nat.reduceSub, Nat.reduceMul, Nat.reduceLT, Int.reduceEq, Int.reduceLT, Int.reduceLE, Int.reduceBEq, Int.reduceBNe, Int.reduceToNat, Int.reduceNeg, Int.reduceSub, Int.reduceAdd]
      refine callD hfr ?_
      simp only [push_cast, Nat.reduceBEq, Nat.reduceAdd, Nat.reduceEqDiff, reduceCtorEq, Nat.reduceLeDiff, Nat.reduceSub, Nat.reduceMul, Nat.reduceLT, Int.reduceEq, Int.reduceLT, Int.reduceLE, Int.reduceBEq, Int.reduceBNe, Int.reduceToNat, Int.reduceNeg, Int.reduceSub, Int.reduceAdd]
      refine callD hsm ?_
      simp only [push_cast, Nat.reduceBEq, Nat.reduceAdd, Nat.reduceEqDiff, reduceCtorEq, Nat.reduceLeDiff, Nat.reduceSub, Nat.reduceMul, Nat.reduceLT, Int.reduceEq, Int.reduceLT, Int.reduceLE, Int.reduceBEq, Int.reduceBNe, Int.reduceToNat, Int.reduceNeg, Int.reduceSub, Int.reduceAdd]
      exact ⟨_, _, (by decide), rfl⟩
    · simp only [push_cast, Nat.reduceBEq, Nat.reduceAdd, Nat.reduceEqDiff, reduceCtorEq, Nat.reduceLeDiff, Nat.reduceSub, Nat.reduceMul, Nat.reduceLT, Int.reduceEq, Int.reduceLT, Int.reduceLE, Int.reduceBEq, Int.reduceBNe, Int.reduceToNat, Int.reduceNeg, Int.reduceSub, Int.reduceAdd]
      exact ⟨_, _, by omega, rfl⟩
  · rintro _ ⟨nx, H, hnx, rfl⟩
    have hdE := decode_h b (by omega)
    rcases decE_err b with h | h
    · obtain ⟨hr, hb⟩ := decE_ok h
      obtain ⟨D, hD⟩ : ∃ D, (decE b) = D := ⟨_, rfl⟩
      rw [hD] at hdE h hr hb
      rw [h] at hdE
      have hy := encode_yes D.1 hr
      rw [hb] at hy
      unfold edH at hdE hy
      have e0 := str_refl ⟨b.toArray⟩
      simp only [push_cast, Nat.reduceBEq, Nat.reduceAdd, Nat.reduceEqDiff, reduceCtorEq, Nat.reduceLeDiff, Nat.reduceSub, Nat.reduceMul, Nat.reduceLT, Int.reduceEq, Int.reduceLT, Int.reduceLE, Int.reduceBEq, Int.reduceBNe, Int.reduceToNat, Int.reduceNeg, Int.reduceSub, Int.reduceAdd]
      refine callK hdE ?_
      simp only [push_cast, Nat.reduceBEq, Nat.reduceAdd, Nat.reduceEqDiff, reduceCtorEq, Nat.reduceLeDiff, Nat.reduceSub, Nat.reduceMul, Nat.reduceLT, Int.reduceEq, Int.reduceLT, Int.reduceLE, Int.reduceBEq, Int.reduceBNe, Int.reduceToNat, Int.reduceNeg, Int.reduceSub, Int.reduceAdd]
      refine callK hy ?_
      simp only [push_cast, Nat.reduceBEq, Nat.reduceAdd, Nat.reduceEqDiff, reduceCtorEq, Nat.reduceLeDiff, Nat.reduceSub, Nat.reduceMul, Nat.reduceLT, Int.reduceEq, Int.reduceLT, Int.reduceLE, Int.reduceBEq, Int.reduceBNe, Int.reduceToNat, Int.reduceNeg, Int.reduceSub, Int.reduceAdd, bytesOf_byL, strOf_byL]
    · rw [h] at hdE
      unfold edH at hdE
      simp only [push_cast, Nat.reduceBEq, Nat.reduceAdd, Nat.reduceEqDiff, reduceCtorEq, Nat.reduceLeDiff, Nat.reduceSub, Nat.reduceMul, Nat.reduceLT, Int.reduceEq, Int.reduceLT, Int.reduceLE, Int.reduceBEq, Int.reduceBNe, Int.reduceToNat, Int.reduceNeg, Int.reduceSub, Int.reduceAdd]
      refine callK hdE ?_
      simp only [push_cast, Nat.reduceBEq, Nat.reduceAdd, Nat.reduceEqDiff, reduceCtorEq, Nat.reduceLeDiff, Nat.reduceSub, Nat.reduceMul, Nat.reduceLT, Int.reduceEq, Int.reduceLT, Int.reduceLE, Int.reduceBEq, Int.reduceBNe, Int.reduceToNat, Int.reduceNeg, Int.reduceSub, Int.reduceAdd]
end Go.Proofs.Ytheanmfdfoefoaa
