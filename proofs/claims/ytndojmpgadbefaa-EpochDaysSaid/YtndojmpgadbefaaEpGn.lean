/- Chapter 12: calls of none, loads of any note, the law's own small functions. -/
import Derived.Test.YtndojmpgadbefaaEpRL
import Derived.Test.YtndojmpgadbefaaEpDay
set_option linter.unusedVariables false
set_option linter.unusedSimpArgs false
namespace Go.Proofs.Ytndojmpgadbefaa
open Go Go.RowKit Hv
set_option maxRecDepth 20000
set_option maxHeartbeats 4000000
section
variable {H H' : Hp} {n n' e : Nat} {S : Nat → Prop} {N : EpN} {D : EpD}
theorem never_h : HCalls Try.prog 10 [] H n fun r H' n' => r = .lit (.pointer none) ∧ H' = H ∧ n' = n := by
  refine hcallsC_of (rs := [.tmp 0]) ⟨[0], [], [], [], []⟩ TOk mixed Try.func10 rfl rfl (by kernel_rfl) (by kernel_rfl) rfl ?_
  simp only [push_cast, Nat.reduceBEq, Nat.reduceAdd, Nat.reduceEqDiff, reduceCtorEq, Nat.reduceLeDiff, Nat.reduceSub, Nat.reduceMul, Nat.reduceLT, Int.reduceEq, Int.reduceLT, Int.reduceLE, Int.reduceBEq, Int.reduceBNe, Int.reduceToNat, Int.reduceNeg, Int.reduceSub, Int.reduceAdd]
theorem nil_none : HCalls Try.prog 40 [.lit (.pointer none)] H n fun r H' n' => r = .lit (.bool true) ∧ H' = H ∧ n' = n := by
  refine hcallsC_of (rs := [.tmp 2]) ⟨[0, 2], [], [], [], []⟩ TOk mixed Try.func40 rfl rfl (by kernel_rfl) (by kernel_rfl) rfl ?_
  simp only [push_cast, Nat.reduceBEq, Nat.reduceAdd, Nat.reduceEqDiff, reduceCtorEq, Nat.reduceLeDiff, Nat.reduceSub, Nat.reduceMul, Nat.reduceLT, Int.reduceEq, Int.reduceLT, Int.reduceLE, Int.reduceBEq, Int.reduceBNe, Int.reduceToNat, Int.reduceNeg, Int.reduceSub, Int.reduceAdd]
theorem nil_now : HCalls Try.prog 11 [.lit (.pointer none)] H n fun r H' n' => r = .lit (.int .i64 0) ∧ H' = H ∧ n' = n := by
  refine hcallsC_of (rs := [.tmp 2]) ⟨[0, 2, 4], [], [], [], []⟩ TOk mixed Try.func11 rfl rfl (by kernel_rfl) (by kernel_rfl) rfl ?_
  simp only [push_cast, Nat.reduceBEq, Nat.reduceAdd, Nat.reduceEqDiff, reduceCtorEq, Nat.reduceLeDiff, Nat.reduceSub, Nat.reduceMul, Nat.reduceLT, Int.reduceEq, Int.reduceLT, Int.reduceLE, Int.reduceBEq, Int.reduceBNe, Int.reduceToNat, Int.reduceNeg, Int.reduceSub, Int.reduceAdd]
  refine callH nil_none ?_
  rintro r H1 n1 ⟨hr, hH, hn⟩
  rw [hr, hH, hn]
  simp only [push_cast, Nat.reduceBEq, Nat.reduceAdd, Nat.reduceEqDiff, reduceCtorEq, Nat.reduceLeDiff, Nat.reduceSub, Nat.reduceMul, Nat.reduceLT, Int.reduceEq, Int.reduceLT, Int.reduceLE, Int.reduceBEq, Int.reduceBNe, Int.reduceToNat, Int.reduceNeg, Int.reduceSub, Int.reduceAdd]
theorem nil_oldest : HCalls Try.prog 12 [.lit (.pointer none)] H n fun r H' n' => r = .lit (.int .i64 0) ∧ H' = H ∧ n' = n := by
  refine hcallsC_of (rs := [.tmp 2]) ⟨[0, 2, 3, 5, 10, 15, 17], [], [], [], []⟩ TOk mixed Try.func12 rfl rfl (by kernel_rfl) (by kernel_rfl) rfl ?_
  simp only [push_cast, Nat.reduceBEq, Nat.reduceAdd, Nat.reduceEqDiff, reduceCtorEq, Nat.reduceLeDiff, Nat.reduceSub, Nat.reduceMul, Nat.reduceLT, Int.reduceEq, Int.reduceLT, Int.reduceLE, Int.reduceBEq, Int.reduceBNe, Int.reduceToNat, Int.reduceNeg, Int.reduceSub, Int.reduceAdd]
  refine callH nil_now ?_
  rintro r H1 n1 ⟨hr, hH, hn⟩
  rw [hr, hH, hn]
  simp only [push_cast, Nat.reduceBEq, Nat.reduceAdd, Nat.reduceEqDiff, reduceCtorEq, Nat.reduceLeDiff, Nat.reduceSub, Nat.reduceMul, Nat.reduceLT, Int.reduceEq, Int.reduceLT, Int.reduceLE, Int.reduceBEq, Int.reduceBNe, Int.reduceToNat, Int.reduceNeg, Int.reduceSub, Int.reduceAdd]
  refine callH nil_none ?_
  rintro r H1 n1 ⟨hr, hH, hn⟩
  rw [hr, hH, hn]
  simp only [push_cast, Nat.reduceBEq, Nat.reduceAdd, Nat.reduceEqDiff, reduceCtorEq, Nat.reduceLeDiff, Nat.reduceSub, Nat.reduceMul, Nat.reduceLT, Int.reduceEq, Int.reduceLT, Int.reduceLE, Int.reduceBEq, Int.reduceBNe, Int.reduceToNat, Int.reduceNeg, Int.reduceSub, Int.reduceAdd]
theorem nil_kept : HCalls Try.prog 13 [.lit (.pointer none)] H n fun r H' n' => r = .lit (.int .i64 0) ∧ H' = H ∧ n' = n := by
  refine hcallsC_of (rs := [.tmp 2]) ⟨[0, 2, 3, 5, 8, 13, 15], [], [], [], []⟩ TOk mixed Try.func13 rfl rfl (by kernel_rfl) (by kernel_rfl) rfl ?_
  simp only [push_cast, Nat.reduceBEq, Nat.reduceAdd, Nat.reduceEqDiff, reduceCtorEq, Nat.reduceLeDiff, Nat.reduceSub, Nat.reduceMul, Nat.reduceLT, Int.reduceEq, Int.reduceLT, Int.reduceLE, Int.reduceBEq, Int.reduceBNe, Int.reduceToNat, Int.reduceNeg, Int.reduceSub, Int.reduceAdd]
  refine callH nil_none ?_
  rintro r H1 n1 ⟨hr, hH, hn⟩
  rw [hr, hH, hn]
  simp only [push_cast, Nat.reduceBEq, Nat.reduceAdd, Nat.reduceEqDiff, reduceCtorEq, Nat.reduceLeDiff, Nat.reduceSub, Nat.reduceMul, Nat.reduceLT, Int.reduceEq, Int.reduceLT, Int.reduceLE, Int.reduceBEq, Int.reduceBNe, Int.reduceToNat, Int.reduceNeg, Int.reduceSub, Int.reduceAdd]
theorem nil_live : HCalls Try.prog 14 [.lit (.pointer none)] H n fun r H' n' => (∃ g, r = .rw g 1 0 0) ∧ n ≤ n' ∧ ∀ j, j < n → H' j = H j := by
  refine hcallsC_of (rs := [.tmp 2]) ⟨[0, 2, 4], [], [], [], []⟩ TOk mixed Try.func14 rfl rfl (by kernel_rfl) (by kernel_rfl) rfl ?_
  simp only [push_cast, Nat.reduceBEq, Nat.reduceAdd, Nat.reduceEqDiff, reduceCtorEq, Nat.reduceLeDiff, Nat.reduceSub, Nat.reduceMul, Nat.reduceLT, Int.reduceEq, Int.reduceLT, Int.reduceLE, Int.reduceBEq, Int.reduceBNe, Int.reduceToNat, Int.reduceNeg, Int.reduceSub, Int.reduceAdd]
  refine callH nil_none ?_
  rintro r H1 n1 ⟨hr, hH, hn⟩
  rw [hr, hH, hn]
  simp only [push_cast, Nat.reduceBEq, Nat.reduceAdd, Nat.reduceEqDiff, reduceCtorEq, Nat.reduceLeDiff, Nat.reduceSub, Nat.reduceMul, Nat.reduceLT, Int.reduceEq, Int.reduceLT, Int.reduceLE, Int.reduceBEq, Int.reduceBNe, Int.reduceToNat, Int.reduceNeg, Int.reduceSub, Int.reduceAdd]
  refine ⟨⟨_, rfl⟩, by omega, fun j hj => ?_⟩
  rw [nb (show n + 1 ≠ j by omega), nb (show n ≠ j by omega), cond_false, cond_false]
theorem nil_unpin : HCalls Try.prog 15 [.lit (.pointer none), .lit (.int .i64 1)] H n fun r H' n' => r = .lit (.int .i64 1) ∧ H' = H ∧ n' = n := by
  refine hcallsC_of (rs := [.tmp 4]) ⟨[0, 1, 4, 6, 8, 19], [], [], [], []⟩ TOk mixed Try.func15 rfl rfl (by kernel_rfl) (by kernel_rfl) rfl ?_
  simp only [push_cast, Nat.reduceBEq, Nat.reduceAdd, Nat.reduceEqDiff, reduceCtorEq, Nat.reduceLeDiff, Nat.reduceSub, Nat.reduceMul, Nat.reduceLT, Int.reduceEq, Int.reduceLT, Int.reduceLE, Int.reduceBEq, Int.reduceBNe, Int.reduceToNat, Int.reduceNeg, Int.reduceSub, Int.reduceAdd]
  refine callH nil_none ?_
  rintro r H1 n1 ⟨hr, hH, hn⟩
  rw [hr, hH, hn]
  simp only [push_cast, Nat.reduceBEq, Nat.reduceAdd, Nat.reduceEqDiff, reduceCtorEq, Nat.reduceLeDiff, Nat.reduceSub, Nat.reduceMul, Nat.reduceLT, Int.reduceEq, Int.reduceLT, Int.reduceLE, Int.reduceBEq, Int.reduceBNe, Int.reduceToNat, Int.reduceNeg, Int.reduceSub, Int.reduceAdd]
theorem nil_new : HCalls Try.prog 8 [.lit (.pointer none)] H n fun r H' n' => r = .tup [.lit (.pointer none), .lit (.int .i64 1)] ∧ H' = H ∧ n' = n := by
  refine hcallsC_of (rs := [.tmp 2, .tmp 3]) ⟨[0, 2, 3, 4, 6, 8, 20], [], [], [], []⟩ TOk mixed Try.func8 rfl rfl (by kernel_rfl) (by kernel_rfl) rfl ?_
  simp only [push_cast, Nat.reduceBEq, Nat.reduceAdd, Nat.reduceEqDiff, reduceCtorEq, Nat.reduceLeDiff, Nat.reduceSub, Nat.reduceMul, Nat.reduceLT, Int.reduceEq, Int.reduceLT, Int.reduceLE, Int.reduceBEq, Int.reduceBNe, Int.reduceToNat, Int.reduceNeg, Int.reduceSub, Int.reduceAdd]
theorem loadS_c (h : EpH H n S e N D) {a b c o m : Int} (ha : lookE N.es a = none) :
    HCalls Try.prog 26 [.ptr e 0, .agg (int5 a b c o m)] H n fun r H' n' => (∃ g, r = .tup [.rw g 1 0 0, .lit (.int .i64 3)] ∧ n ≤ g ∧ g < n' ∧ ∃ m e, H' g = some (.row m e [])) ∧ n ≤ n' ∧ ∀ j, j < n → H' j = H j := by
  refine hcallsC_of (rs := [.tmp 4, .tmp 5]) ⟨[0, 1, 3, 4, 5, 6, 7, 9, 11, 23, 34], [], [], [(3, [(0, [], []), (1, [], []), (2, [], []), (3, [], []), (4, [], []), (5, [], []), (6, [], []), (7, [], []), (8, [], []), (9, [], []), (10, [], [8, 0, 1, 2, 3, 4, 5, 6, 7]), (11, [], [9, 10, 0, 1, 2, 3, 4, 5, 6, 7, 8])]), (6, [(0, [], []), (1, [], []), (2, [], []), (3, [], []), (4, [], []), (5, [], []), (6, [], []), (7, [], []), (8, [], []), (9, [3, 4, 5], []), (10, [], [9, 7, 0, 1, 2, 3, 4, 5, 6]), (11, [], [8, 10, 0, 1, 2, 3, 4, 5, 6, 7, 9])]), (9, [(0, [], []), (1, [], []), (2, [], []), (3, [], []), (4, [], []), (5, [], []), (6, [], [3, 5, 2, 4, 1, 0]), (7, [], []), (8, [], []), (9, [], [7, 6, 0, 1, 2, 3, 4, 5, 8]), (10, [], [8, 9, 0, 1, 2, 3, 4, 5, 6, 7])])], []⟩ TOk mixed Try.func26 rfl rfl (by kernel_rfl) (by kernel_rfl) rfl ?_
  have hen := h.lt e h.Sp.1
  have hln := h.lt N.lv h.Sp.2.1
  have hf := mfind_no (vA := ptrA) keyOk_intA ha
  simp only [intA] at hf
  have c0 : (n + 1 == n) = false := nb (by omega)
  unfold int5
  simp only [push_cast, Nat.reduceBEq, Nat.reduceAdd, Nat.reduceEqDiff, reduceCtorEq, Nat.reduceLeDiff, Nat.reduceSub, Nat.reduceMul, Nat.reduceLT, Int.reduceEq, Int.reduceLT, Int.reduceLE, Int.reduceBEq, Int.reduceBNe, Int.reduceToNat, Int.reduceNeg, Int.reduceSub, Int.reduceAdd, c0]
  have ep1 : upd (upd H n (some (.cells (int5 a b c o m)))) (n + 1) (some (.row false 5 [])) e = _ := (upd_other (by omega)).trans ((upd_other (by omega)).trans h.ep)
  unfold int5 at ep1
  refine callH (none_h ep1) ?_
  rintro r H1 n1 ⟨hr, hH, hn⟩
  rw [hr, hH, hn]
  have ep := h.ep
  have lv := h.lv
  have d1 : (n == e) = false := nb (by omega)
  have d2 : (n + 1 == e) = false := nb (by omega)
  have d3 : (n == N.lv) = false := nb (by omega)
  have d4 : (n + 1 == N.lv) = false := nb (by omega)
  have d5 : (n == n + 1) = false := nb (by omega)
  simp only [push_cast, Nat.reduceBEq, Nat.reduceAdd, Nat.reduceEqDiff, reduceCtorEq, Nat.reduceLeDiff, Nat.reduceSub, Nat.reduceMul, Nat.reduceLT, Int.reduceEq, Int.reduceLT, Int.reduceLE, Int.reduceBEq, Int.reduceBNe, Int.reduceToNat, Int.reduceNeg, Int.reduceSub, Int.reduceAdd, ep, lv, c0, d1, d2, d3, d4, d5, hf]
  refine ⟨⟨n + 1 + 1, rfl, by omega, by omega, false, 5, by rw [beq_self_eq_true, cond_true]⟩, by omega, fun j hj => ?_⟩
  rw [nb (show n + 1 + 1 ≠ j by omega), nb (show n + 1 ≠ j by omega), nb (show n ≠ j by omega), cond_false, cond_false, cond_false]
theorem loadA_c (h : EpH H n S e N D) {a b c o m : Int} {k : Nat} {r : EraD} (ha : a = ((D.lo + k : Nat) : Int)) (hr : D.eras[k]? = some r) (hf2 : mfind (.agg (int5 a b c o m)) (r.notes.map (Ent.me noteA unitA)) 0 = some none) :
    HCalls Try.prog 26 [.ptr e 0, .agg (int5 a b c o m)] H n fun r H' n' => (∃ g, r = .tup [.rw g 1 0 0, .lit (.int .i64 1)] ∧ n ≤ g ∧ g < n' ∧ ∃ m e, H' g = some (.row m e [])) ∧ n ≤ n' ∧ ∀ j, j < n → H' j = H j := by
  refine hcallsC_of (rs := [.tmp 4, .tmp 5]) ⟨[0, 1, 3, 4, 5, 6, 7, 9, 11, 23, 34], [], [], [(3, [(0, [], []), (1, [], []), (2, [], []), (3, [], []), (4, [], []), (5, [], []), (6, [], []), (7, [], []), (8, [], []), (9, [], []), (10, [], [8, 0, 1, 2, 3, 4, 5, 6, 7]), (11, [], [9, 10, 0, 1, 2, 3, 4, 5, 6, 7, 8])]), (6, [(0, [], []), (1, [], []), (2, [], []), (3, [], []), (4, [], []), (5, [], []), (6, [], []), (7, [], []), (8, [], []), (9, [3, 4, 5], []), (10, [], [9, 7, 0, 1, 2, 3, 4, 5, 6]), (11, [], [8, 10, 0, 1, 2, 3, 4, 5, 6, 7, 9])]), (9, [(0, [], []), (1, [], []), (2, [], []), (3, [], []), (4, [], []), (5, [], []), (6, [], [3, 5, 2, 4, 1, 0]), (7, [], []), (8, [], []), (9, [], [7, 6, 0, 1, 2, 3, 4, 5, 8]), (10, [], [8, 9, 0, 1, 2, 3, 4, 5, 6, 7])])], []⟩ TOk mixed Try.func26 rfl rfl (by kernel_rfl) (by kernel_rfl) rfl ?_
  have hen := h.lt e h.Sp.1
  have hln := h.lt N.lv h.Sp.2.1
  have hex := h.entry hr
  rw [← ha] at hex
  obtain ⟨y, hy, hlk, hy1, hy2, hy3⟩ := hex
  have hyn := h.Sp.2.2.2 y (List.mem_of_getElem? hy)
  have hyn1 := h.lt _ hyn.1
  have hyn2 := h.lt _ hyn.2
  obtain ⟨j, z, g1, g2, g3, g4, hf⟩ := mfind_yes (vA := ptrA) keyOk_intA hlk
  simp only [intA, ptrA] at hf
  have c0 : (n + 1 == n) = false := nb (by omega)
  unfold int5 at hf2 ⊢
  simp only [push_cast, Nat.reduceBEq, Nat.reduceAdd, Nat.reduceEqDiff, reduceCtorEq, Nat.reduceLeDiff, Nat.reduceSub, Nat.reduceMul, Nat.reduceLT, Int.reduceEq, Int.reduceLT, Int.reduceLE, Int.reduceBEq, Int.reduceBNe, Int.reduceToNat, Int.reduceNeg, Int.reduceSub, Int.reduceAdd, c0]
  have ep1 : upd (upd H n (some (.cells (int5 a b c o m)))) (n + 1) (some (.row false 5 [])) e = _ := (upd_other (by omega)).trans ((upd_other (by omega)).trans h.ep)
  unfold int5 at ep1
  refine callH (none_h ep1) ?_
  rintro r1 H1 n1 ⟨hr1, hH, hn⟩
  rw [hr1, hH, hn]
  have ep := h.ep
  have lv := h.lv
  have d1 : (n == e) = false := nb (by omega)
  have d2 : (n + 1 == e) = false := nb (by omega)
  have d3 : (n == N.lv) = false := nb (by omega)
  have d4 : (n + 1 == N.lv) = false := nb (by omega)
  have d5 : (n == n + 1) = false := nb (by omega)
  have d6 : (n == y.1) = false := nb (by omega)
  have d7 : (n + 1 == y.1) = false := nb (by omega)
  have d8 : (n == y.2) = false := nb (by omega)
  have d9 : (n + 1 == y.2) = false := nb (by omega)
  have d10 : (n + 1 + 1 == n) = false := nb (by omega)
  have d11 : (n + 1 + 1 == e) = false := nb (by omega)
  have d12 : (n + 1 + 1 == y.1) = false := nb (by omega)
  have d13 : (n + 1 + 1 == y.2) = false := nb (by omega)
  simp only [push_cast, Nat.reduceBEq, Nat.reduceAdd, Nat.reduceEqDiff, reduceCtorEq, Nat.reduceLeDiff, Nat.reduceSub, Nat.reduceMul, Nat.reduceLT, Int.reduceEq, Int.reduceLT, Int.reduceLE, Int.reduceBEq, Int.reduceBNe, Int.reduceToNat, Int.reduceNeg, Int.reduceSub, Int.reduceAdd, ep, lv, c0, d1, d2, d3, d4, d5, d6, d7, d8, d9, d10, d11, d12, d13, hf, hf2, hy1, hy2, g2, g4]
  refine ⟨⟨n + 1 + 1 + 1, rfl, by omega, by omega, false, 5, by rw [beq_self_eq_true, cond_true]⟩, by omega, fun j hj => ?_⟩
  simp only [nb (show n + 1 + 1 + 1 ≠ j by omega), nb (show n + 1 + 1 ≠ j by omega), nb (show n + 1 ≠ j by omega), nb (show n ≠ j by omega), cond_false]
theorem like_h {a b c o m : Int} : HCalls Try.prog 24 [.agg (int5 a b c o m)] H n fun r H' n' => r = .agg (int5 a b c o m) ∧ n ≤ n' ∧ ∀ j, j < n → H' j = H j := by
  refine hcallsC_of (rs := [.cell 2 56]) ⟨[0, 1, 2], [], [], [], []⟩ TOk mixed Try.func24 rfl rfl (by kernel_rfl) (by kernel_rfl) rfl ?_
  have c0 : (n + 1 == n) = false := nb (by omega)
  unfold int5
  simp only [push_cast, Nat.reduceBEq, Nat.reduceAdd, Nat.reduceEqDiff, reduceCtorEq, Nat.reduceLeDiff, Nat.reduceSub, Nat.reduceMul, Nat.reduceLT, Int.reduceEq, Int.reduceLT, Int.reduceLE, Int.reduceBEq, Int.reduceBNe, Int.reduceToNat, Int.reduceNeg, Int.reduceSub, Int.reduceAdd, c0]
  exact ⟨by omega, fun j hj => by simp only [nb (show n + 1 ≠ j by omega), nb (show n ≠ j by omega), cond_false]⟩
def noteOf (d : DayD) (y : NoteD) : NoteD := if d.by' = 1 then ⟨y.ep + d.data.size, y.reg, y.gen, y.off, y.len⟩ else if d.by' = 2 then ⟨y.ep, y.reg, y.gen, y.off + 1, y.len⟩ else if d.by' = 3 then ⟨y.ep, y.reg, y.gen, y.off, y.len + 1⟩ else y
theorem note_none {d : DayD} {g : Nat} {mm : Bool} {ee : Nat} (hg : H g = some (.row mm ee [])) (hgn : g < n) : HCalls Try.prog 25 [.rw g 5 0 0, .agg (dayI d)] H n fun r H' n' => r = .agg (int5 d.n d.by' 1 0 1) ∧ n ≤ n' ∧ ∀ j, j < n → H' j = H j := by
  refine hcallsC_of (rs := [.cell 4 51]) ⟨[0, 1, 3, 4, 5, 14, 27, 28, 37, 45], [], [], [], []⟩ TOk mixed Try.func25 rfl rfl (by kernel_rfl) (by kernel_rfl) rfl ?_
  have c0 : (n + 1 == n) = false := nb (by omega)
  have c1 : (n + 1 + 1 == n) = false := nb (by omega)
  have c2 : (n + 1 + 1 == n + 1) = false := nb (by omega)
  have c3 : (n + 1 == n + 1 + 1) = false := nb (by omega)
  unfold int5 dayI
  simp only [push_cast, Nat.reduceBEq, Nat.reduceAdd, Nat.reduceEqDiff, reduceCtorEq, Nat.reduceLeDiff, Nat.reduceSub, Nat.reduceMul, Nat.reduceLT, Int.reduceEq, Int.reduceLT, Int.reduceLE, Int.reduceBEq, Int.reduceBNe, Int.reduceToNat, Int.reduceNeg, Int.reduceSub, Int.reduceAdd, c0, c1, c2, c3, show ¬ (0 : Int) > 0 by decide]
  exact ⟨by omega, fun j hj => by simp only [nb (show n + 1 + 1 ≠ j by omega), nb (show n + 1 ≠ j by omega), nb (show n ≠ j by omega), cond_false]⟩
theorem note_some {d : DayD} {g : Nat} {ee : Nat} {X : List NoteD} (hg : H g = some (.row false ee (X.map noteI))) (hgn : g < n) (hX : X ≠ []) (hXl : X.length ≤ 1000000) (hd : d.data.size ≤ 140737488355328) (hb : ∀ x ∈ X, x.ep ≤ 1000000000 ∧ x.off ≤ 1000000000 ∧ x.len ≤ 1000000000) :
    HCalls Try.prog 25 [.rw g 5 0 X.length, .agg (dayI d)] H n fun r H' n' => (∃ x ∈ X, r = noteA (noteOf d x)) ∧ n ≤ n' ∧ ∀ j, j < n → H' j = H j := by
  refine hcallsC_of (rs := [.cell 4 51]) ⟨[0, 1, 3, 4, 5, 14, 27, 28, 37, 45], [], [], [], [4]⟩ TOk mixed Try.func25 rfl rfl (by kernel_rfl) (by kernel_rfl) rfl ?_
  have hpos := List.length_pos_iff.2 hX
  obtain ⟨m, hm, hm1, hm2⟩ := u64_mod d.n (K := X.length) hpos hXl
  have hgp : (X.length : Int) > 0 := by omega
  have hup : IntKind.u64.wrap (X.length : Int) = (X.length : Int) := by simp [IntKind.wrap, IntKind.bits, IntKind.signed]; omega
  have hne : ¬ (X.length : Int) = 0 := by omega
  have hml : (m : Int) < (X.length : Int) := by omega
  obtain ⟨x, hx⟩ : ∃ x, X[m]? = some x := ⟨_, List.getElem?_eq_getElem hm⟩
  have hxi : (X.map noteI)[m]? = some [.lit (.int .i64 (x.ep : Int)), .lit (.int .i64 (x.reg : Int)), .lit (.int .i64 (x.gen : Int)), .lit (.int .i64 (x.off : Int)), .lit (.int .i64 (x.len : Int))] := by rw [List.getElem?_map, hx]; rfl
  obtain ⟨b1, b2, b3⟩ := hb x (List.mem_of_getElem? hx)
  have c0 : (n + 1 == n) = false := nb (by omega)
  have c1 : (n + 1 + 1 == n) = false := nb (by omega)
  have c2 : (n + 1 + 1 == n + 1) = false := nb (by omega)
  have c3 : (n + 1 == n + 1 + 1) = false := nb (by omega)
  have c4 : (n == g) = false := nb (by omega)
  have c5 : (n + 1 == g) = false := nb (by omega)
  have c6 : (n + 1 + 1 == g) = false := nb (by omega)
  have w1 : IntKind.i64.wrap ((x.ep : Int) + (d.data.size : Int)) = ((x.ep + d.data.size : Nat) : Int) := by rw [Int.natCast_add]; exact IntWalk.i64_in _ (by omega)
  have w2 : IntKind.i64.wrap ((x.off : Int) + 1) = (x.off : Int) + 1 := IntWalk.i64_in _ (by omega)
  have w3 : IntKind.i64.wrap ((x.len : Int) + 1) = (x.len : Int) + 1 := IntWalk.i64_in _ (by omega)
  have kF : ∀ (o1 o2 o3 o4 o5 : Option AO) (j : Nat), j < n → upd (upd (upd (upd (upd H n o1) (n + 1) o2) (n + 1 + 1) o3) (n + 1 + 1) o4) (n + 1 + 1) o5 j = H j := fun o1 o2 o3 o4 o5 j hj => by
    rw [upd_other (by omega), upd_other (by omega), upd_other (by omega), upd_other (by omega), upd_other (by omega)]
  unfold dayI
  simp only [push_cast, Nat.reduceBEq, Nat.reduceAdd, Nat.reduceEqDiff, reduceCtorEq, Nat.reduceLeDiff, Nat.reduceSub, Nat.reduceMul, Nat.reduceLT, Int.reduceEq, Int.reduceLT, Int.reduceLE, Int.reduceBEq, Int.reduceBNe, Int.reduceToNat, Int.reduceNeg, Int.reduceSub, Int.reduceAdd, c0, c1, c2, c3, c4, c5, c6, hg, hxi, hml, hgp, hm1, hm2, hup, hne]
  refine cutK (fun s => ∃ H5, s = ⟨[(3, .ptr n 0), (4, .ptr (n + 1) 0), (5, .ptr (n + 1 + 1) 0)], H5, n + 1 + 1 + 1⟩ ∧ H5 n = some (.cells [.lit (.int .i64 d.call), .lit (.int .i64 d.n), .lit (.int .i64 d.by'), .lit (.string d.data)]) ∧ H5 (n + 1) = some (.cells [.lit (.int .i64 0), .lit (.int .i64 0), .lit (.int .i64 0), .lit (.int .i64 0), .lit (.int .i64 0)]) ∧ H5 (n + 1 + 1) = some (.cells [.lit (.int .i64 (x.ep : Int)), .lit (.int .i64 (x.reg : Int)), .lit (.int .i64 (x.gen : Int)), .lit (.int .i64 (x.off : Int)), .lit (.int .i64 (x.len : Int))]) ∧ ∀ j, j < n → H5 j = H j) [3, 4, 5] ?_ ?_
  · simp only [push_cast, Nat.reduceBEq, Nat.reduceAdd, Nat.reduceEqDiff, reduceCtorEq, Nat.reduceLeDiff, Nat.reduceSub, Nat.reduceMul, Nat.reduceLT, Int.reduceEq, Int.reduceLT, Int.reduceLE, Int.reduceBEq, Int.reduceBNe, Int.reduceToNat, Int.reduceNeg, Int.reduceSub, Int.reduceAdd, c0, c1, c2, c3, c4, c5, c6, hg, hxi, hml, hgp, hm1, hm2, hup, hne]
    refine ⟨_, rfl, ?_, ?_, upd_same _ _ _, kF _ _ _ _ _⟩
    · rw [upd_other (by omega), upd_other (by omega), upd_other (by omega), upd_other (by omega), upd_same]
    · rw [upd_other (by omega), upd_other (by omega), upd_other (by omega), upd_same]
  · rintro _ ⟨H5, rfl, h5n, h5a, h5b, k5⟩
    have hxm := List.mem_of_getElem? hx
    have fin : ∀ (o1 o2 o3 : Option AO) (r : AV), r = noteA (noteOf d x) → (∃ x ∈ X, r = noteA (noteOf d x)) ∧ n ≤ n + 1 + 1 + 1 := fun o1 o2 o3 r hr => ⟨⟨x, hxm, hr⟩, by omega⟩
    have kk : ∀ (o1 o2 : Option AO) (j : Nat), j < n → upd (upd H5 (n + 1 + 1) o1) (n + 1) o2 j = H j := fun o1 o2 j hj => by rw [upd_other (by omega), upd_other (by omega)]; exact k5 j hj
    have kk2 : ∀ (o2 : Option AO) (j : Nat), j < n → upd H5 (n + 1) o2 j = H j := fun o2 j hj => by rw [upd_other (by omega)]; exact k5 j hj
    by_cases hb1 : d.by' = 1
    · have e : noteOf d x = ⟨x.ep + d.data.size, x.reg, x.gen, x.off, x.len⟩ := by unfold noteOf; rw [if_pos hb1]
      simp only [push_cast, Nat.reduceBEq, Nat.reduceAdd, Nat.reduceEqDiff, reduceCtorEq, Nat.reduceLeDiff, Nat.reduceSub, Nat.reduceMul, Nat.reduceLT, Int.reduceEq, Int.reduceLT, Int.reduceLE, Int.reduceBEq, Int.reduceBNe, Int.reduceToNat, Int.reduceNeg, Int.reduceSub, Int.reduceAdd, h5n, h5a, h5b, c0, c1, c2, c3, hb1, w1]
      exact ⟨⟨x, hxm, by rw [e]; rfl⟩, by omega, fun j hj => by simp only [nb (show n + 1 + 1 ≠ j by omega), nb (show n + 1 ≠ j by omega), cond_false]; exact k5 j hj⟩
    · have hb1' : (d.by' == 1) = false := beq_eq_false_iff_ne.2 hb1
      by_cases hb2 : d.by' = 2
      · have e : noteOf d x = ⟨x.ep, x.reg, x.gen, x.off + 1, x.len⟩ := by unfold noteOf; rw [if_neg hb1, if_pos hb2]
        simp only [push_cast, Nat.reduceBEq, Nat.reduceAdd, Nat.reduceEqDiff, reduceCtorEq, Nat.reduceLeDiff, Nat.reduceSub, Nat.reduceMul, Nat.reduceLT, Int.reduceEq, Int.reduceLT, Int.reduceLE, Int.reduceBEq, Int.reduceBNe, Int.reduceToNat, Int.reduceNeg, Int.reduceSub, Int.reduceAdd, h5n, h5a, h5b, c0, c1, c2, c3, hb1', hb2, w2]
        exact ⟨⟨x, hxm, by rw [e]; rfl⟩, by omega, fun j hj => by simp only [nb (show n + 1 + 1 ≠ j by omega), nb (show n + 1 ≠ j by omega), cond_false]; exact k5 j hj⟩
      · have hb2' : (d.by' == 2) = false := beq_eq_false_iff_ne.2 hb2
        by_cases hb3 : d.by' = 3
        · have e : noteOf d x = ⟨x.ep, x.reg, x.gen, x.off, x.len + 1⟩ := by unfold noteOf; rw [if_neg hb1, if_neg hb2, if_pos hb3]
          simp only [push_cast, Nat.reduceBEq, Nat.reduceAdd, Nat.reduceEqDiff, reduceCtorEq, Nat.reduceLeDiff, Nat.reduceSub, Nat.reduceMul, Nat.reduceLT, Int.reduceEq, Int.reduceLT, Int.reduceLE, Int.reduceBEq, Int.reduceBNe, Int.reduceToNat, Int.reduceNeg, Int.reduceSub, Int.reduceAdd, h5n, h5a, h5b, c0, c1, c2, c3, hb1', hb2', hb3, w3]
          exact ⟨⟨x, hxm, by rw [e]; rfl⟩, by omega, fun j hj => by simp only [nb (show n + 1 + 1 ≠ j by omega), nb (show n + 1 ≠ j by omega), cond_false]; exact k5 j hj⟩
        · have hb3' : (d.by' == 3) = false := beq_eq_false_iff_ne.2 hb3
          have e : noteOf d x = x := by unfold noteOf; rw [if_neg hb1, if_neg hb2, if_neg hb3]
          simp only [push_cast, Nat.reduceBEq, Nat.reduceAdd, Nat.reduceEqDiff, reduceCtorEq, Nat.reduceLeDiff, Nat.reduceSub, Nat.reduceMul, Nat.reduceLT, Int.reduceEq, Int.reduceLT, Int.reduceLE, Int.reduceBEq, Int.reduceBNe, Int.reduceToNat, Int.reduceNeg, Int.reduceSub, Int.reduceAdd, h5n, h5a, h5b, c0, c1, c2, c3, hb1', hb2', hb3']
          exact ⟨⟨x, hxm, by rw [e]; rfl⟩, by omega, fun j hj => by simp only [nb (show n + 1 ≠ j by omega), cond_false]; exact k5 j hj⟩
end
end Go.Proofs.Ytndojmpgadbefaa
