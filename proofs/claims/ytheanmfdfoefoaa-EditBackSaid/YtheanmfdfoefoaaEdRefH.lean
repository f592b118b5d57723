/- The reference's Right and DocEncode, for the walk over a heap. -/
import Derived.Test.YtheanmfdfoefoaaRefRight
import Derived.Test.YtheanmfdfoefoaaEdPar
set_option linter.unusedVariables false
set_option linter.unusedSimpArgs false
namespace Go.Proofs.Ytheanmfdfoefoaa
open Go Go.RowKit Hv
set_option maxRecDepth 20000
set_option maxHeartbeats 4000000
theorem plH_lit (p : PlD) : plH p = (plC p).map AV.lit := rfl
theorem addH_lit (a : AddD) : addH a = (addC a).map AV.lit := rfl
theorem metaH_lit (m : MetaD) : metaH m = (metaC m).map AV.lit := rfl
theorem vals5 {vs : List Value} (h : vs.length = 5) : ∃ a b c d e, vs = [a, b, c, d, e] := by
  match vs, h with
  | [a, b, c, d, e], _ => exact ⟨a, b, c, d, e, rfl⟩
theorem rd_ed {w : World} {W : Nat → Nat → Prop} {gb : Gb} {e : EdD} {v : Value} (h : Rep w W gb (edH e) v) : ∃ gv nv, v = .agg #[.int .i64 e.log, .int .i64 e.next, .int .i64 e.seq, gv, nv] ∧ RdT w 2 plC gv e.gone ∧ RdT w 5 addC nv e.new := by
  unfold edH at h
  cases h with
  | agg cs vs hl h1 hj =>
    obtain ⟨a, b, c, d, f, rfl⟩ := vals5 (by rw [← hl]; rfl)
    have e0 := rep_lit (hj 0 _ _ rfl rfl)
    have e1 := rep_lit (hj 1 _ _ rfl rfl)
    have e2 := rep_lit (hj 2 _ _ rfl rfl)
    subst e0 e1 e2
    exact ⟨d, f, rfl, rd_of_rep plH_lit plC_len (hj 3 _ _ rfl rfl), rd_of_rep addH_lit addC_len (hj 4 _ _ rfl rfl)⟩
theorem rRight_h (e : EdD) : Hv.ACalls Try.prog 38 [edH e] (.lit (.bool (rightB e))) := by
  refine ⟨by kernel_rfl, fun w W gb vs hW hl hr => ?_⟩
  match vs, hl, hr with
  | [v], _, hr =>
    obtain ⟨gv, nv, rfl, h1, h2⟩ := rd_ed (hr 0 _ _ rfl rfl)
    exact (Right_calls e gv nv w h1 h2).mono fun x w' h => ⟨_, h.1, .lit _, h.2⟩
theorem rnum_h (n : Nat) (hn : n < 4611686018427387904) : Hv.ACalls Try.prog 72 [.lit (.int .i64 (n : Int))] (.lit (.string (str (putB n)))) := by
  refine acallsC_of (rs := [.tmp 2]) ⟨[0, 2], [], [], [], []⟩ TOk mixed Try.func72 rfl rfl (by kernel_rfl) (by kernel_rfl) rfl (nid1 (.lit _)) (.lit _) ?_
  have hw := u64_nat (n := n) (by omega)
  simp only [push_cast, Nat.reduceBEq, Nat.reduceAdd, Nat.reduceEqDiff, reduceCtorEq, Nat.reduceLeDiff, Nat.reduceSub, Nat.reduceMul, Nat.reduceLT, Int.reduceEq, Int.reduceLT, Int.reduceLE, Int.reduceBEq, Int.reduceBNe, Int.reduceToNat, Int.reduceNeg, Int.reduceSub, Int.reduceAdd, hw]
  refine callK (rput_h n (by unfold U64; omega)) ?_
  simp only [push_cast, Nat.reduceBEq, Nat.reduceAdd, Nat.reduceEqDiff, reduceCtorEq, Nat.reduceLeDiff, Nat.reduceSub, Nat.reduceMul, Nat.reduceLT, Int.reduceEq, Int.reduceLT, Int.reduceLE, Int.reduceBEq, Int.reduceBNe, Int.reduceToNat, Int.reduceNeg, Int.reduceSub, Int.reduceAdd]
theorem strS_app (a b : List UInt8) (h : a.length + b.length ≤ 1000000000) : (9223372036854775807 < (str a).size + (str b).size) = False := eq_false (by rw [str_size, str_size]; omega)
theorem docEncode_no (e : EdD) (hr : rightB e = false) : Hv.ACalls Try.prog 48 [edH e] (.tup [.lit (.string ⟨#[]⟩), .lit (.int .i64 2)]) := by
  refine acallsC_of (rs := [.tmp 2, .tmp 3]) ⟨[0, 1, 2, 3, 4, 5, 6, 7, 10, 34, 64], [], [], [(3, [(0, [], []), (1, [], []), (4, [], []), (5, [], []), (9, [], []), (10, [], []), (14, [], []), (15, [], []), (16, [], []), (2, [5, 10, 15, 16], [1, 0]), (3, [5, 10, 15, 16], [2, 1, 0]), (6, [10, 15, 16], [5, 3, 4, 2, 1, 0]), (7, [10, 15, 16], [6, 5, 3, 4, 2, 1, 0]), (8, [], []), (11, [15, 16], [10, 7, 9, 6, 5, 3, 4, 2, 1, 0]), (12, [15, 16], [11, 10, 7, 9, 6, 5, 3, 4, 2, 1, 0]), (13, [], []), (17, [], [16, 12, 15, 11, 14, 10, 7, 9, 6, 5, 3, 4, 2, 1, 0]), (18, [], []), (19, [], [18, 17, 0, 1, 2, 3, 4, 5, 6, 7, 8, 9, 10, 11, 12, 13, 14, 15, 16])]), (7, [(0, [], []), (1, [], []), (2, [], []), (3, [], []), (4, [], []), (5, [], []), (6, [], []), (9, [], []), (10, [], []), (11, [], []), (12, [], []), (13, [], []), (14, [], []), (7, [10, 12, 14], [6, 5, 4, 2, 3, 1]), (8, [], []), (15, [], [14, 7, 13, 6, 12, 5, 10, 11, 4, 9, 2, 3, 1]), (16, [], []), (17, [], [16, 15, 0, 1, 2, 3, 4, 5, 6, 7, 8, 9, 10, 11, 12, 13, 14])]), (13, [(0, [], []), (1, [], []), (2, [], []), (3, [], []), (4, [], []), (5, [], []), (6, [], []), (9, [], []), (10, [], []), (13, [], []), (14, [], []), (17, [], []), (18, [], []), (21, [], []), (22, [], []), (7, [10, 14, 18, 22], [6, 5, 4, 2, 3, 1]), (8, [], []), (11, [14, 18, 22], [10, 7, 9, 6, 5, 4, 2, 3, 1]), (12, [], []), (15, [18, 22], [14, 11, 13, 10, 7, 9, 6, 5, 4, 2, 3, 1]), (16, [], []), (19, [22], [18, 15, 17, 14, 11, 13, 10, 7, 9, 6, 5, 4, 2, 3, 1]), (20, [], []), (23, [], [22, 19, 21, 18, 15, 17, 14, 11, 13, 10, 7, 9, 6, 5, 4, 2, 3, 1]), (24, [], []), (25, [], [24, 23, 0, 1, 2, 3, 4, 5, 6, 7, 8, 9, 10, 11, 12, 13, 14, 15, 16, 17, 18, 19, 20, 21, 22])])], []⟩ TOk mixed Try.func48 rfl rfl (by kernel_rfl) (by kernel_rfl) rfl (nid1 (noId_ed e)) (by rw [noId_tup]; exact nid2 (.lit _) (.lit _)) ?_
  simp only [push_cast, Nat.reduceBEq, Nat.reduceAdd, Nat.reduceEqDiff, reduceCtorEq, Nat.reduceLeDiff, Nat.reduceSub, Nat.reduceMul, Nat.reduceLT, Int.reduceEq, Int.reduceLT, Int.reduceLE, Int.reduceBEq, Int.reduceBNe, Int.reduceToNat, Int.reduceNeg, Int.reduceSub, Int.reduceAdd, edH]
  refine callK (rRight_h e) ?_
  simp only [push_cast, Nat.reduceBEq, Nat.reduceAdd, Nat.reduceEqDiff, reduceCtorEq, Nat.reduceLeDiff, Nat.reduceSub, Nat.reduceMul, Nat.reduceLT, Int.reduceEq, Int.reduceLT, Int.reduceLE, Int.reduceBEq, Int.reduceBNe, Int.reduceToNat, Int.reduceNeg, Int.reduceSub, Int.reduceAdd, hr]
theorem noBig {a b : Nat} (h : a + b ≤ 9223372036854775807) : (9223372036854775807 < a + b) = False := eq_false (by omega)
theorem zig_lt {z : Int} (h : -1 ≤ z) (h' : z < 4611686018427387904) : zig z < U64 := by unfold zig U64; split <;> omega
theorem textB_le {s : ByteArray} (h : s.size ≤ 64) : (textB s).length ≤ 100 := by
  have e1 : s.data.toList.length = s.size := by rw [Array.length_toList]; rfl
  have := putB_length s.size
  unfold textB; rw [List.length_append]; omega
theorem hd_eq (e : EdD) : hdE e = putB (zig e.log) ++ putB (zig e.next) ++ putB (zig e.seq) := by unfold hdE zsE; simp
theorem docEncode_yes (e : EdD) (hr : rightB e = true) : Hv.ACalls Try.prog 48 [edH e] (.tup [.lit (.string (str (edE e))), .lit (.int .i64 0)]) := by
  obtain ⟨⟨a1, a2⟩, ⟨b1, b2⟩, ⟨c1, c2⟩, d1, d2, h2, h3⟩ := right_three hr
  have hgl : IntKind.i64.wrap (e.gone.length : Int) = (e.gone.length : Int) := IntWalk.i64_in _ (by omega)
  have p1 := putB_length (zig e.log)
  have p2 := putB_length (zig e.next)
  have p3 := putB_length (zig e.seq)
  have p4 := putB_length e.gone.length
  have p5 := putB_length e.new.length
  refine acallsC_of (rs := [.tmp 2, .tmp 3]) ⟨[0, 1, 2, 3, 4, 5, 6, 7, 10, 34, 64], [], [], [(3, [(0, [], []), (1, [], []), (4, [], []), (5, [], []), (9, [], []), (10, [], []), (14, [], []), (15, [], []), (16, [], []), (2, [5, 10, 15, 16], [1, 0]), (3, [5, 10, 15, 16], [2, 1, 0]), (6, [10, 15, 16], [5, 3, 4, 2, 1, 0]), (7, [10, 15, 16], [6, 5, 3, 4, 2, 1, 0]), (8, [], []), (11, [15, 16], [10, 7, 9, 6, 5, 3, 4, 2, 1, 0]), (12, [15, 16], [11, 10, 7, 9, 6, 5, 3, 4, 2, 1, 0]), (13, [], []), (17, [], [16, 12, 15, 11, 14, 10, 7, 9, 6, 5, 3, 4, 2, 1, 0]), (18, [], []), (19, [], [18, 17, 0, 1, 2, 3, 4, 5, 6, 7, 8, 9, 10, 11, 12, 13, 14, 15, 16])]), (7, [(0, [], []), (1, [], []), (2, [], []), (3, [], []), (4, [], []), (5, [], []), (6, [], []), (9, [], []), (10, [], []), (11, [], []), (12, [], []), (13, [], []), (14, [], []), (7, [10, 12, 14], [6, 5, 4, 2, 3, 1]), (8, [], []), (15, [], [14, 7, 13, 6, 12, 5, 10, 11, 4, 9, 2, 3, 1]), (16, [], []), (17, [], [16, 15, 0, 1, 2, 3, 4, 5, 6, 7, 8, 9, 10, 11, 12, 13, 14])]), (13, [(0, [], []), (1, [], []), (2, [], []), (3, [], []), (4, [], []), (5, [], []), (6, [], []), (9, [], []), (10, [], []), (13, [], []), (14, [], []), (17, [], []), (18, [], []), (21, [], []), (22, [], []), (7, [10, 14, 18, 22], [6, 5, 4, 2, 3, 1]), (8, [], []), (11, [14, 18, 22], [10, 7, 9, 6, 5, 4, 2, 3, 1]), (12, [], []), (15, [18, 22], [14, 11, 13, 10, 7, 9, 6, 5, 4, 2, 3, 1]), (16, [], []), (19, [22], [18, 15, 17, 14, 11, 13, 10, 7, 9, 6, 5, 4, 2, 3, 1]), (20, [], []), (23, [], [22, 19, 21, 18, 15, 17, 14, 11, 13, 10, 7, 9, 6, 5, 4, 2, 3, 1]), (24, [], []), (25, [], [24, 23, 0, 1, 2, 3, 4, 5, 6, 7, 8, 9, 10, 11, 12, 13, 14, 15, 16, 17, 18, 19, 20, 21, 22])])], []⟩ TOk mixed Try.func48 rfl rfl (by kernel_rfl) (by kernel_rfl) rfl (nid1 (noId_ed e)) (by rw [noId_tup]; exact nid2 (.lit _) (.lit _)) ?_
  simp only [push_cast, Nat.reduceBEq, Nat.reduceAdd, Nat.reduceEqDiff, reduceCtorEq, Nat.reduceLeDiff, Nat.reduceSub, Nat.reduceMul, Nat.reduceLT, Int.reduceEq, Int.reduceLT, Int.reduceLE, Int.reduceBEq, Int.reduceBNe, Int.reduceToNat, Int.reduceNeg, Int.reduceSub, Int.reduceAdd, edH]
  refine callK (rRight_h e) ?_
  simp only [push_cast, Nat.reduceBEq, Nat.reduceAdd, Nat.reduceEqDiff, reduceCtorEq, Nat.reduceLeDiff, Nat.reduceSub, Nat.reduceMul, Nat.reduceLT, Int.reduceEq, Int.reduceLT, Int.reduceLE, Int.reduceBEq, Int.reduceBNe, Int.reduceToNat, Int.reduceNeg, Int.reduceSub, Int.reduceAdd, hr]
  refine callD (fold_h a1 (by omega)) ?_
  rw [Hv.contD_at]
  refine ⟨by simp only [push_cast, Nat.reduceBEq, Nat.reduceAdd, Nat.reduceEqDiff, reduceCtorEq, Nat.reduceLeDiff, Nat.reduceSub, Nat.reduceMul, Nat.reduceLT, Int.reduceEq, Int.reduceLT, Int.reduceLE, Int.reduceBEq, Int.reduceBNe, Int.reduceToNat, Int.reduceNeg, Int.reduceSub, Int.reduceAdd], ?_⟩
  simp only [push_cast, Nat.reduceBEq, Nat.reduceAdd, Nat.reduceEqDiff, reduceCtorEq, Nat.reduceLeDiff, Nat.reduceSub, Nat.reduceMul, Nat.reduceLT, Int.reduceEq, Int.reduceLT, Int.reduceLE, Int.reduceBEq, Int.reduceBNe, Int.reduceToNat, Int.reduceNeg, Int.reduceSub, Int.reduceAdd]
  refine callD (rput_h _ (zig_lt a1 (by omega))) ?_
  simp only [push_cast, Nat.reduceBEq, Nat.reduceAdd, Nat.reduceEqDiff, reduceCtorEq, Nat.reduceLeDiff, Nat.reduceSub, Nat.reduceMul, Nat.reduceLT, Int.reduceEq, Int.reduceLT, Int.reduceLE, Int.reduceBEq, Int.reduceBNe, Int.reduceToNat, Int.reduceNeg, Int.reduceSub, Int.reduceAdd]
  refine callD (fold_h b1 (by omega)) ?_
  simp only [push_cast, Nat.reduceBEq, Nat.reduceAdd, Nat.reduceEqDiff, reduceCtorEq, Nat.reduceLeDiff, Nat.reduceSub, Nat.reduceMul, Nat.reduceLT, Int.reduceEq, Int.reduceLT, Int.reduceLE, Int.reduceBEq, Int.reduceBNe, Int.reduceToNat, Int.reduceNeg, Int.reduceSub, Int.reduceAdd]
  refine callD (rput_h _ (zig_lt b1 (by omega))) ?_
  simp (disch := omega) only [push_cast, Hv.neB, Nat.reduceBEq, Nat.reduceAdd, Nat.reduceEqDiff, reduceCtorEq, Nat.reduceLeDiff, Nat.reduceSub, Nat.reduceMul, Nat.reduceLT, Int.reduceEq, Int.reduceLT, Int.reduceLE, Int.reduceBEq, Int.reduceBNe, Int.reduceToNat, Int.reduceNeg, Int.reduceSub, Int.reduceAdd, str_append, str_size, noBig, List.length_append]
  refine callD (fold_h c1 (by omega)) ?_
  simp only [push_cast, Nat.reduceBEq, Nat.reduceAdd, Nat.reduceEqDiff, reduceCtorEq, Nat.reduceLeDiff, Nat.reduceSub, Nat.reduceMul, Nat.reduceLT, Int.reduceEq, Int.reduceLT, Int.reduceLE, Int.reduceBEq, Int.reduceBNe, Int.reduceToNat, Int.reduceNeg, Int.reduceSub, Int.reduceAdd]
  refine callD (rput_h _ (zig_lt c1 (by omega))) ?_
  simp (disch := omega) only [push_cast, Hv.neB, Nat.reduceBEq, Nat.reduceAdd, Nat.reduceEqDiff, reduceCtorEq, Nat.reduceLeDiff, Nat.reduceSub, Nat.reduceMul, Nat.reduceLT, Int.reduceEq, Int.reduceLT, Int.reduceLE, Int.reduceBEq, Int.reduceBNe, Int.reduceToNat, Int.reduceNeg, Int.reduceSub, Int.reduceAdd, str_append, str_size, noBig, List.length_append]
  refine callD (rnum_h _ (by omega)) ?_
  simp (disch := omega) only [push_cast, Hv.neB, Nat.reduceBEq, Nat.reduceAdd, Nat.reduceEqDiff, reduceCtorEq, Nat.reduceLeDiff, Nat.reduceSub, Nat.reduceMul, Nat.reduceLT, Int.reduceEq, Int.reduceLT, Int.reduceLE, Int.reduceBEq, Int.reduceBNe, Int.reduceToNat, Int.reduceNeg, Int.reduceSub, Int.reduceAdd, str_append, str_size, noBig, List.length_append]
  have hl0 : ∃ l0, putB (zig e.log) ++ putB (zig e.next) ++ putB (zig e.seq) ++ putB e.gone.length = l0 := ⟨_, rfl⟩
  obtain ⟨l0, hl0⟩ := hl0
  have hlen0 : l0.length ≤ 44 := by rw [← hl0]; simp only [List.length_append]; omega
  rw [hl0]
  refine loopK (fun n x => ∃ k : Nat, k ≤ e.gone.length ∧ n = e.gone.length - k ∧ x = ⟨[(1, .ptr 0 0), (4, .lit (.string (str (l0 ++ (e.gone.take k).flatMap plE)))), (5, .lit (.int .i64 (k : Int)))], upd (fun _ => none) 0 (some (.cells (edCells e))), 1⟩) _ [1, 4, 5] ⟨0, by omega, rfl, by rw [List.take_zero, List.flatMap_nil, List.append_nil]; rfl⟩ ?_
  rintro n _ ⟨k, hk, rfl, rfl⟩
  have hplE : ∀ x ∈ e.gone.take k, (plE x).length ≤ 22 := fun x _ => by
    have := flat_len [x.level.toNat, x.file.toNat]
    exact this
  have hlen3 : (l0 ++ (e.gone.take k).flatMap plE).length ≤ 30000 := by
    have := flatMap_le _ hplE
    rw [List.length_append]
    rw [List.length_take] at this
    omega
  rw [List.length_append] at hlen3
  by_cases h : k < e.gone.length
  · obtain ⟨p, hp⟩ : ∃ p, e.gone[k]? = some p := ⟨_, List.getElem?_eq_getElem h⟩
    have hpB : plB p = true := h2 p (List.mem_of_getElem? hp)
    have hw := wrap_nat (k := k) (by omega)
    have hnext : l0 ++ (e.gone.take (k + 1)).flatMap plE = l0 ++ (e.gone.take k).flatMap plE ++ plE p := by
      rw [List.take_add_one, hp, List.flatMap_append, List.append_assoc]; simp
    obtain ⟨a, b, ha, hb, hpe⟩ : ∃ a b : Nat, a < 4 ∧ b < 1000000 ∧ p = ⟨(a : Int), (b : Int)⟩ := by
      obtain ⟨q1, q2, q3, q4⟩ := right_pl hpB
      exact ⟨_, _, q3, q4, by cases p; simp only at q1 q2 ⊢; rw [q1, q2]⟩
    have hplp : plE p = putB a ++ putB b := by rw [hpe]; unfold plE; simp
    have q1 := putB_length a
    have q2 := putB_length b
    subst hpe
    simp only [push_cast, Nat.reduceBEq, Nat.reduceAdd, Nat.reduceEqDiff, reduceCtorEq, Nat.reduceLeDiff, Nat.reduceSub, Nat.reduceMul, Nat.reduceLT, Int.reduceEq, Int.reduceLT, Int.reduceLE, Int.reduceBEq, Int.reduceBNe, Int.reduceToNat, Int.reduceNeg, Int.reduceSub, Int.reduceAdd, h, hp, plH, edCells]
    refine callD (rnum_h _ (by omega)) ?_
    simp (disch := omega) only [push_cast, Hv.neB, Nat.reduceBEq, Nat.reduceAdd, Nat.reduceEqDiff, reduceCtorEq, Nat.reduceLeDiff, Nat.reduceSub, Nat.reduceMul, Nat.reduceLT, Int.reduceEq, Int.reduceLT, Int.reduceLE, Int.reduceBEq, Int.reduceBNe, Int.reduceToNat, Int.reduceNeg, Int.reduceSub, Int.reduceAdd, hp, plH, str_append, str_size, noBig, List.length_append, edCells]
    refine callD (rnum_h _ (by omega)) ?_
    simp (disch := omega) only [push_cast, Hv.neB, Nat.reduceBEq, Nat.reduceAdd, Nat.reduceEqDiff, reduceCtorEq, Nat.reduceLeDiff, Nat.reduceSub, Nat.reduceMul, Nat.reduceLT, Int.reduceEq, Int.reduceLT, Int.reduceLE, Int.reduceBEq, Int.reduceBNe, Int.reduceToNat, Int.reduceNeg, Int.reduceSub, Int.reduceAdd, hw, str_append, str_size, noBig, List.length_append]
    refine ⟨_, by omega, k + 1, by omega, rfl, ?_⟩
    rw [hnext, hplp, List.append_assoc _ (putB a)]; rfl
  · obtain rfl : k = e.gone.length := by omega
    have hnlt : ¬ ((e.gone.length : Nat) : Int) < ((e.gone.length : Nat) : Int) := by omega
    rw [List.take_length] at hlen3
    simp only [push_cast, Nat.reduceBEq, Nat.reduceAdd, Nat.reduceEqDiff, reduceCtorEq, Nat.reduceLeDiff, Nat.reduceSub, Nat.reduceMul, Nat.reduceLT, Int.reduceEq, Int.reduceLT, Int.reduceLE, Int.reduceBEq, Int.reduceBNe, Int.reduceToNat, Int.reduceNeg, Int.reduceSub, Int.reduceAdd, hnlt, edCells]
    refine callK (rnum_h e.new.length (by omega)) ?_
    simp (disch := omega) only [push_cast, Hv.neB, Nat.reduceBEq, Nat.reduceAdd, Nat.reduceEqDiff, reduceCtorEq, Nat.reduceLeDiff, Nat.reduceSub, Nat.reduceMul, Nat.reduceLT, Int.reduceEq, Int.reduceLT, Int.reduceLE, Int.reduceBEq, Int.reduceBNe, Int.reduceToNat, Int.reduceNeg, Int.reduceSub, Int.reduceAdd, str_append, str_size, noBig, List.length_append, List.take_length]
    obtain ⟨l1, hl1⟩ : ∃ l1, l0 ++ e.gone.flatMap plE ++ putB e.new.length = l1 := ⟨_, rfl⟩
    have hlen2 : l1.length ≤ 30011 := by rw [← hl1, List.length_append, List.length_append]; omega
    rw [hl1]
    refine loopK (fun n x => ∃ (k nx : Nat) (H : Hp), k ≤ e.new.length ∧ n = e.new.length - k ∧ 1 ≤ nx ∧ H 0 = some (.cells (edCells e)) ∧ x = ⟨[(1, .ptr 0 0), (4, .lit (.string (str (l1 ++ (e.new.take k).flatMap adE)))), (6, .lit (.int .i64 (k : Int)))], H, nx⟩) _ [1, 4, 6] ⟨0, 1, _, by omega, rfl, by omega, ?_, by rw [List.take_zero, List.flatMap_nil, List.append_nil]; rfl⟩ ?_
    · rfl
    rintro n _ ⟨k, nx, H, hk, rfl, hnx, h0, rfl⟩
    have hadE : ∀ x ∈ e.new.take k, (adE x).length ≤ 1000 := fun x hx => by
      obtain ⟨_, _, _, _, _, _, q1, q2⟩ := right_ad (h3 x (List.mem_of_mem_take hx))
      have h1 := flat_len [x.level.toNat, x.t.file.toNat, x.t.size.toNat]
      have h2 := textB_le q1
      have h3 := textB_le q2
      unfold adE
      simp only [List.length_append, List.length_cons, List.length_nil] at h1 ⊢
      omega
    have hlen4 : (l1 ++ (e.new.take k).flatMap adE).length ≤ 2000000 := by
      have := flatMap_le _ hadE
      rw [List.length_append]
      rw [List.length_take] at this
      omega
    rw [List.length_append] at hlen4
    by_cases h : k < e.new.length
    · obtain ⟨x, hx⟩ : ∃ x, e.new[k]? = some x := ⟨_, List.getElem?_eq_getElem h⟩
      have hxB : addB x = true := h3 x (List.mem_of_getElem? hx)
      have hw := wrap_nat (k := k) (by omega)
      have hnext : l1 ++ (e.new.take (k + 1)).flatMap adE = l1 ++ (e.new.take k).flatMap adE ++ adE x := by
        rw [List.take_add_one, hx, List.flatMap_append, List.append_assoc]; simp
      obtain ⟨a, b, c, f, l, ha, hb, hc, hf, hl, hxe⟩ : ∃ (a b c : Nat) (f l : ByteArray), a < 4 ∧ b < 1000000 ∧ c < 2000000 ∧ f.size ≤ 64 ∧ l.size ≤ 64 ∧ x = ⟨(a : Int), ⟨(b : Int), (c : Int), f, l⟩⟩ := by
        obtain ⟨q1, q2, q3, q4, q5, q6, q7, q8⟩ := right_ad hxB
        exact ⟨_, _, _, _, _, q4, q5, q6, q7, q8, by obtain ⟨lv, ⟨f1, s1, _, _⟩⟩ := x; simp only at q1 q2 q3 ⊢; rw [q1, q2, q3]⟩
      have hadx : adE x = putB a ++ (putB b ++ (putB c ++ (textB f ++ textB l))) := by rw [hxe]; unfold adE; simp
      have q1 := putB_length a
      have q2 := putB_length b
      have q3 := putB_length c
      have q4 := textB_le hf
      have q5 := textB_le hl
      subst hxe
      simp (disch := omega) only [push_cast, Hv.neB, Nat.reduceBEq, Nat.reduceAdd, Nat.reduceEqDiff, reduceCtorEq, Nat.reduceLeDiff, Nat.reduceSub, Nat.reduceMul, Nat.reduceLT, Int.reduceEq, Int.reduceLT, Int.reduceLE, Int.reduceBEq, Int.reduceBNe, Int.reduceToNat, Int.reduceNeg, Int.reduceSub, Int.reduceAdd, h, hx, addH, edCells, h0]
      refine callD (rnum_h _ (by omega)) ?_
      simp (disch := omega) only [push_cast, Hv.neB, Nat.reduceBEq, Nat.reduceAdd, Nat.reduceEqDiff, reduceCtorEq, Nat.reduceLeDiff, Nat.reduceSub, Nat.reduceMul, Nat.reduceLT, Int.reduceEq, Int.reduceLT, Int.reduceLE, Int.reduceBEq, Int.reduceBNe, Int.reduceToNat, Int.reduceNeg, Int.reduceSub, Int.reduceAdd, hx, addH, edCells, h0, str_append, str_size, noBig, List.length_append]
      refine callD (rnum_h _ (by omega)) ?_
      simp (disch := omega) only [push_cast, Hv.neB, Nat.reduceBEq, Nat.reduceAdd, Nat.reduceEqDiff, reduceCtorEq, Nat.reduceLeDiff, Nat.reduceSub, Nat.reduceMul, Nat.reduceLT, Int.reduceEq, Int.reduceLT, Int.reduceLE, Int.reduceBEq, Int.reduceBNe, Int.reduceToNat, Int.reduceNeg, Int.reduceSub, Int.reduceAdd, str_append, str_size, noBig, List.length_append]
      refine callD (rnum_h _ (by omega)) ?_
      simp (disch := omega) only [push_cast, Hv.neB, Nat.reduceBEq, Nat.reduceAdd, Nat.reduceEqDiff, reduceCtorEq, Nat.reduceLeDiff, Nat.reduceSub, Nat.reduceMul, Nat.reduceLT, Int.reduceEq, Int.reduceLT, Int.reduceLE, Int.reduceBEq, Int.reduceBNe, Int.reduceToNat, Int.reduceNeg, Int.reduceSub, Int.reduceAdd, str_append, str_size, noBig, List.length_append]
      refine callD (rtext_h _ (by omega)) ?_
      simp (disch := omega) only [push_cast, Hv.neB, Nat.reduceBEq, Nat.reduceAdd, Nat.reduceEqDiff, reduceCtorEq, Nat.reduceLeDiff, Nat.reduceSub, Nat.reduceMul, Nat.reduceLT, Int.reduceEq, Int.reduceLT, Int.reduceLE, Int.reduceBEq, Int.reduceBNe, Int.reduceToNat, Int.reduceNeg, Int.reduceSub, Int.reduceAdd, str_append, str_size, noBig, List.length_append]
      refine callD (rtext_h _ (by omega)) ?_
      have hst : str (l1 ++ List.flatMap adE (List.take k e.new) ++ putB a ++ putB b ++ putB c ++ textB f ++ textB l) = str (l1 ++ (e.new.take (k + 1)).flatMap adE) := by rw [hnext, hadx]; simp only [List.append_assoc]
      simp (disch := omega) only [push_cast, Hv.neB, Nat.reduceBEq, Nat.reduceAdd, Nat.reduceEqDiff, reduceCtorEq, Nat.reduceLeDiff, Nat.reduceSub, Nat.reduceMul, Nat.reduceLT, Int.reduceEq, Int.reduceLT, Int.reduceLE, Int.reduceBEq, Int.reduceBNe, Int.reduceToNat, Int.reduceNeg, Int.reduceSub, Int.reduceAdd, str_append, str_size, noBig, List.length_append, hw, hst]
      exact ⟨_, by omega, k + 1, nx + 1, _, by omega, rfl, by omega, (by exact (upd_other (by omega)).trans ((upd_other (by omega)).trans h0)), rfl⟩
    · obtain rfl : k = e.new.length := by omega
      have hnlt : ¬ ((e.new.length : Nat) : Int) < ((e.new.length : Nat) : Int) := by omega
      simp only [push_cast, Nat.reduceBEq, Nat.reduceAdd, Nat.reduceEqDiff, reduceCtorEq, Nat.reduceLeDiff, Nat.reduceSub, Nat.reduceMul, Nat.reduceLT, Int.reduceEq, Int.reduceLT, Int.reduceLE, Int.reduceBEq, Int.reduceBNe, Int.reduceToNat, Int.reduceNeg, Int.reduceSub, Int.reduceAdd, hnlt, edCells, h0, List.take_length]
      rw [← hl1, ← hl0, ← hd_eq]
      rfl
end Go.Proofs.Ytheanmfdfoefoaa
