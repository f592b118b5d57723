/- Epochs: closed; by the walk over a heap. -/
import Derived.Test.YtndojmpgadbefaaEpU
set_option linter.unusedVariables false
set_option linter.unusedSimpArgs false
namespace Go.Proofs.Ytndojmpgadbefaa
open Go Go.RowKit Hv
set_option maxRecDepth 20000
set_option maxHeartbeats 4000000
section
variable {H H' : Hp} {n n' e : Nat} {S : Nat → Prop} {D : EpD} {N : EpN}
theorem over_none {p now lv pn last : AV} (h : H e = some (.cells [p, now, lv, pn, last, .lit (.bool true)])) : HCalls Try.prog 40 [.ptr e 0] H n fun r H' n' => r = .lit (.bool true) ∧ H' = H ∧ n' = n := by
  refine hcallsC_of (rs := [.tmp 2]) ⟨[0, 2], [], [], []⟩ TOk mixed Try.func40 rfl rfl (by kernel_rfl) (by kernel_rfl) rfl ?_
  simp only [push_cast, Nat.reduceBEq, Nat.reduceAdd, Nat.reduceEqDiff, reduceCtorEq, Nat.reduceLeDiff, Nat.reduceSub, Nat.reduceMul, Nat.reduceLT, Int.reduceEq, Int.reduceLT, Int.reduceLE, Int.reduceBEq, Int.reduceBNe, Int.reduceToNat, Int.reduceNeg, Int.reduceSub, Int.reduceAdd, h]
theorem over_close {p now lv pn last : AV} (h : H e = some (.cells [p, now, lv, pn, last, .lit (.bool true)])) : HCalls Try.prog 38 [.ptr e 0] H n fun r H' n' => r = .lit (.int .i64 1) ∧ H' = H ∧ n' = n := by
  refine hcallsC_of (rs := [.tmp 2]) ⟨[0, 2, 4, 5, 7, 9, 10, 11, 12, 30], [], [], [(6, [(0, [], []), (1, [], []), (2, [], []), (3, [], []), (4, [], []), (5, [], []), (6, [], []), (7, [], []), (8, [], []), (9, [], []), (10, [], []), (11, [], []), (12, [], []), (13, [], [3, 12, 2, 11, 1, 10, 0, 9, 7, 8, 6, 5, 4]), (14, [], [13, 0, 1, 2, 3, 4, 5, 6, 7, 8, 9, 10, 11, 12])])]⟩ TOk mixed Try.func38 rfl rfl (by kernel_rfl) (by kernel_rfl) rfl ?_
  simp only [push_cast, Nat.reduceBEq, Nat.reduceAdd, Nat.reduceEqDiff, reduceCtorEq, Nat.reduceLeDiff, Nat.reduceSub, Nat.reduceMul, Nat.reduceLT, Int.reduceEq, Int.reduceLT, Int.reduceLE, Int.reduceBEq, Int.reduceBNe, Int.reduceToNat, Int.reduceNeg, Int.reduceSub, Int.reduceAdd]
  refine callH (over_none h) ?_
  rintro r H2 n2 ⟨hr, hH, hn⟩
  rw [hr, hH, hn]
  simp only [push_cast, Nat.reduceBEq, Nat.reduceAdd, Nat.reduceEqDiff, reduceCtorEq, Nat.reduceLeDiff, Nat.reduceSub, Nat.reduceMul, Nat.reduceLT, Int.reduceEq, Int.reduceLT, Int.reduceLE, Int.reduceBEq, Int.reduceBNe, Int.reduceToNat, Int.reduceNeg, Int.reduceSub, Int.reduceAdd]
theorem over_now {p now lv pn last : AV} (h : H e = some (.cells [p, now, lv, pn, last, .lit (.bool true)])) : HCalls Try.prog 11 [.ptr e 0] H n fun r H' n' => r = .lit (.int .i64 0) ∧ H' = H ∧ n' = n := by
  refine hcallsC_of (rs := [.tmp 2]) ⟨[0, 2, 4], [], [], []⟩ TOk mixed Try.func11 rfl rfl (by kernel_rfl) (by kernel_rfl) rfl ?_
  simp only [push_cast, Nat.reduceBEq, Nat.reduceAdd, Nat.reduceEqDiff, reduceCtorEq, Nat.reduceLeDiff, Nat.reduceSub, Nat.reduceMul, Nat.reduceLT, Int.reduceEq, Int.reduceLT, Int.reduceLE, Int.reduceBEq, Int.reduceBNe, Int.reduceToNat, Int.reduceNeg, Int.reduceSub, Int.reduceAdd]
  refine callH (over_none h) ?_
  rintro r H2 n2 ⟨hr, hH, hn⟩
  rw [hr, hH, hn]
  simp only [push_cast, Nat.reduceBEq, Nat.reduceAdd, Nat.reduceEqDiff, reduceCtorEq, Nat.reduceLeDiff, Nat.reduceSub, Nat.reduceMul, Nat.reduceLT, Int.reduceEq, Int.reduceLT, Int.reduceLE, Int.reduceBEq, Int.reduceBNe, Int.reduceToNat, Int.reduceNeg, Int.reduceSub, Int.reduceAdd]
theorem over_live {p now lv pn last : AV} (h : H e = some (.cells [p, now, lv, pn, last, .lit (.bool true)])) (he : e < n) : HCalls Try.prog 14 [.ptr e 0] H n fun r H' n' => (∃ g, r = .rw g 1 0 0) ∧ n ≤ n' ∧ ∀ j, j < n → H' j = H j := by
  refine hcallsC_of (rs := [.tmp 2]) ⟨[0, 2, 4], [], [], []⟩ TOk mixed Try.func14 rfl rfl (by kernel_rfl) (by kernel_rfl) rfl ?_
  simp only [push_cast, Nat.reduceBEq, Nat.reduceAdd, Nat.reduceEqDiff, reduceCtorEq, Nat.reduceLeDiff, Nat.reduceSub, Nat.reduceMul, Nat.reduceLT, Int.reduceEq, Int.reduceLT, Int.reduceLE, Int.reduceBEq, Int.reduceBNe, Int.reduceToNat, Int.reduceNeg, Int.reduceSub, Int.reduceAdd]
  refine callH (over_none (H := upd H n (some (.row false 3 []))) ((upd_other (by omega)).trans h)) ?_
  rintro _ _ _ ⟨rfl, rfl, rfl⟩
  simp only [push_cast, Nat.reduceBEq, Nat.reduceAdd, Nat.reduceEqDiff, reduceCtorEq, Nat.reduceLeDiff, Nat.reduceSub, Nat.reduceMul, Nat.reduceLT, Int.reduceEq, Int.reduceLT, Int.reduceLE, Int.reduceBEq, Int.reduceBNe, Int.reduceToNat, Int.reduceNeg, Int.reduceSub, Int.reduceAdd]
  exact ⟨⟨_, rfl⟩, by omega, fun j hj => by rw [nb (show n + 1 ≠ j by omega), nb (show n ≠ j by omega), cond_false, cond_false]⟩
theorem close_c (h : EpH H n S e N D) (hnow : 1 ≤ D.now) {r : EraD} {l : LandD} (hr : D.eras = [r]) (hl : D.pool.lands[r.region]? = some l) (ht : l.there = true) :
    HCalls Try.prog 38 [.ptr e 0] H n fun res H' n' => res = .lit (.int .i64 0) ∧ n ≤ n' ∧ (∃ now lv pn last, H' e = some (.cells [.ptr N.p 0, now, lv, pn, last, .lit (.bool true)])) ∧ ∃ Sq, Pool H' n' Sq N.p (D.pool.freed r.region l) ∧ ¬ Sq e := by
  refine hcallsC_of (rs := [.tmp 2]) ⟨[0, 2, 4, 5, 7, 9, 10, 11, 12, 30], [], [], [(6, [(0, [], []), (1, [], []), (2, [], []), (3, [], []), (4, [], []), (5, [], []), (6, [], []), (7, [], []), (8, [], []), (9, [], []), (10, [], []), (11, [], []), (12, [], []), (13, [], [3, 12, 2, 11, 1, 10, 0, 9, 7, 8, 6, 5, 4]), (14, [], [13, 0, 1, 2, 3, 4, 5, 6, 7, 8, 9, 10, 11, 12])])]⟩ TOk mixed Try.func38 rfl rfl (by kernel_rfl) (by kernel_rfl) rfl ?_
  have ep := h.ep
  have hen := h.lt e h.Sp.1
  have hel : D.eras.length = 1 := by rw [hr]; rfl
  have hcnt := h.ok.cnt
  simp only [push_cast, Nat.reduceBEq, Nat.reduceAdd, Nat.reduceEqDiff, reduceCtorEq, Nat.reduceLeDiff, Nat.reduceSub, Nat.reduceMul, Nat.reduceLT, Int.reduceEq, Int.reduceLT, Int.reduceLE, Int.reduceBEq, Int.reduceBNe, Int.reduceToNat, Int.reduceNeg, Int.reduceSub, Int.reduceAdd]
  refine callH (none_h ep) ?_
  rintro _ H n ⟨rfl, rfl, rfl⟩
  simp only [push_cast, Nat.reduceBEq, Nat.reduceAdd, Nat.reduceEqDiff, reduceCtorEq, Nat.reduceLeDiff, Nat.reduceSub, Nat.reduceMul, Nat.reduceLT, Int.reduceEq, Int.reduceLT, Int.reduceLE, Int.reduceBEq, Int.reduceBNe, Int.reduceToNat, Int.reduceNeg, Int.reduceSub, Int.reduceAdd]
  refine callH (live_c h hnow (by omega)) ?_
  rintro _ H1 n1 ⟨g, rfl, hg1, hg2, hgr, k1⟩
  have k1 : ∀ j, j < n → H1 j = H j := k1
  have hg1 : n ≤ g := hg1
  have h1 := h.frame (H' := H1) (n' := n1) (by omega) fun j hj => k1 j (h.lt j hj)
  have hgS : ¬ S g := fun hs => by have := h.lt g hs; omega
  rw [hel]
  simp only [push_cast, Nat.reduceBEq, Nat.reduceAdd, Nat.reduceEqDiff, reduceCtorEq, Nat.reduceLeDiff, Nat.reduceSub, Nat.reduceMul, Nat.reduceLT, Int.reduceEq, Int.reduceLT, Int.reduceLE, Int.reduceBEq, Int.reduceBNe, Int.reduceToNat, Int.reduceNeg, Int.reduceSub, Int.reduceAdd]
  refine loopK (fun q s => (s = ⟨[(0, .ptr e 0), (9, .rw g 1 0 1), (10, .lit (.int .i64 1)), (11, .lit (.int .i64 0))], H1, n1⟩ ∧ q = 1) ∨ (∃ (H6 : Hp) (n6 : Nat) (Sq : Nat → Prop), s = ⟨[(0, .ptr e 0), (9, .rw g 1 0 1), (10, .lit (.int .i64 1)), (11, .lit (.int .i64 1))], H6, n6⟩ ∧ q = 0 ∧ n ≤ n6 ∧ H6 e = some (.cells [.ptr N.p 0, .lit (.int .i64 (D.now : Int)), .mp N.lv, .mp N.pn, .lit (.int .i64 (D.last : Int)), .lit (.bool false)]) ∧ Pool H6 n6 Sq N.p (D.pool.freed r.region l) ∧ ¬ Sq e)) _ [0, 9, 10, 11] (.inl ⟨rfl, rfl⟩) ?_
  have hlive : D.live.map intI = [[.lit (.int .i64 (D.now : Int))]] := by
    unfold EpD.live
    rw [hel]
    show [intI ((D.lo + 0 : Nat) : Int)] = _
    rw [show D.lo + 0 = D.now by omega]; rfl
  rw [hlive] at hgr
  obtain ⟨x, hx, hlk, hx1, hx2, hx3⟩ := h1.entry (k := 0) (r := r) (by rw [hr]; rfl)
  rw [show D.lo + 0 = D.now by omega] at hlk
  obtain ⟨i, y, g1, g2, g3, g4, hf⟩ := mfind_yes (vA := ptrA) keyOk_intA hlk
  simp only [intA, ptrA] at hf
  obtain ⟨Sp, ⟨PN, p1⟩, p2, p3, p4, p5, p6⟩ := h1.pool
  have ep1 := h1.ep
  have lv1 := h1.lv
  have hln1 := h1.lt N.lv h1.Sp.2.1
  obtain ⟨ne1, _, _⟩ := h1.nes
  rintro q _ (⟨rfl, rfl⟩ | ⟨H6, n6, Sq, rfl, rfl, hn6, he6, q6, nq6⟩)
  · have g01 : (0 : Int) < 1 := by decide
    simp only [push_cast, Nat.reduceBEq, Nat.reduceAdd, Nat.reduceEqDiff, reduceCtorEq, Nat.reduceLeDiff, Nat.reduceSub, Nat.reduceMul, Nat.reduceLT, Int.reduceEq, Int.reduceLT, Int.reduceLE, Int.reduceBEq, Int.reduceBNe, Int.reduceToNat, Int.reduceNeg, Int.reduceSub, Int.reduceAdd, g01, hgr, ep1, lv1, hf, g2, g4, hx1]
    refine callHD (free_c p1 hl ht) ?_
    rintro _ H6 n6 ⟨rfl, Sq, q1, hn6, k6⟩
    rw [Hv.contD_at]
    refine ⟨by simp only [push_cast, Nat.reduceBEq, Nat.reduceAdd, Nat.reduceEqDiff, reduceCtorEq, Nat.reduceLeDiff, Nat.reduceSub, Nat.reduceMul, Nat.reduceLT, Int.reduceEq, Int.reduceLT, Int.reduceLE, Int.reduceBEq, Int.reduceBNe, Int.reduceToNat, Int.reduceNeg, Int.reduceSub, Int.reduceAdd], ?_⟩
    have lv6 : H6 N.lv = _ := (k6 N.lv hln1 p4).1.trans lv1
    have ep6 : H6 e = _ := (k6 e (by omega) p3).1.trans ep1
    have w1 : IntKind.i64.wrap 1 = 1 := by rfl
    simp only [push_cast, Nat.reduceBEq, Nat.reduceAdd, Nat.reduceEqDiff, reduceCtorEq, Nat.reduceLeDiff, Nat.reduceSub, Nat.reduceMul, Nat.reduceLT, Int.reduceEq, Int.reduceLT, Int.reduceLE, Int.reduceBEq, Int.reduceBNe, Int.reduceToNat, Int.reduceNeg, Int.reduceSub, Int.reduceAdd, ep6, lv6, hf, w1]
    exact ⟨0, by omega, .inr ⟨_, n6, Sq, rfl, rfl, by omega, (upd_other (Ne.symm ne1)).trans ep6, q1.u (k6 N.lv hln1 p4).2, (k6 e (by omega) p3).2⟩⟩
  · have g01 : ¬ (1 : Int) < 1 := by decide
    simp only [push_cast, Nat.reduceBEq, Nat.reduceAdd, Nat.reduceEqDiff, reduceCtorEq, Nat.reduceLeDiff, Nat.reduceSub, Nat.reduceMul, Nat.reduceLT, Int.reduceEq, Int.reduceLT, Int.reduceLE, Int.reduceBEq, Int.reduceBNe, Int.reduceToNat, Int.reduceNeg, Int.reduceSub, Int.reduceAdd, g01, he6]
    exact ⟨hn6, ⟨_, _, _, _, rfl⟩, Sq, q6.u nq6, nq6⟩
end
end Go.Proofs.Ytndojmpgadbefaa
