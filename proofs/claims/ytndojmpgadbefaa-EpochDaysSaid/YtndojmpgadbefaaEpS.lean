/- Epochs: bytes that were retired are loaded; by the walk over a heap. -/
import Derived.Test.YtndojmpgadbefaaEpR
set_option linter.unusedVariables false
set_option linter.unusedSimpArgs false
namespace Go.Proofs.Ytndojmpgadbefaa
open Go Go.RowKit Hv
set_option maxRecDepth 20000
set_option maxHeartbeats 4000000
section
variable {H H' : Hp} {n n' e : Nat} {S : Nat → Prop} {D : EpD} {N : EpN}
theorem EpH.gone (h : EpH H n S e N D) {x : Nat} (hx : x < D.lo ∨ D.now < x) : lookE N.es (x : Int) = none := lookE_none.2 fun y hy hk => by
  obtain ⟨i, hi⟩ := List.mem_iff_getElem?.1 hy
  obtain ⟨z, _, h1, _⟩ := h.es i y hi
  have hil := (List.getElem?_eq_some_iff.1 hi).1
  rw [h.esl.1] at hil
  have := h.ok.cnt
  rw [h1] at hk
  omega
theorem load_stale (h : EpH H n S e N D) {x : NoteD} (hx : x.ep < D.lo ∨ D.now < x.ep) :
    HCalls Try.prog 26 [.ptr e 0, noteA x] H n fun r H' n' => (∃ v, r = .tup [v, .lit (.int .i64 3)]) ∧ n ≤ n' ∧ ∀ j, j < n → H' j = H j := by
  refine hcallsC_of (rs := [.tmp 4, .tmp 5]) ⟨[0, 1, 3, 4, 5, 6, 7, 9, 11, 23, 34], [], [], [(3, [(0, [], []), (1, [], []), (2, [], []), (3, [], []), (4, [], []), (5, [], []), (6, [], []), (7, [], []), (8, [], []), (9, [], []), (10, [], [8, 0, 1, 2, 3, 4, 5, 6, 7]), (11, [], [9, 10, 0, 1, 2, 3, 4, 5, 6, 7, 8])]), (6, [(0, [], []), (1, [], []), (2, [], []), (3, [], []), (4, [], []), (5, [], []), (6, [], []), (7, [], []), (8, [], []), (9, [3, 4, 5], []), (10, [], [9, 7, 0, 1, 2, 3, 4, 5, 6]), (11, [], [8, 10, 0, 1, 2, 3, 4, 5, 6, 7, 9])]), (9, [(0, [], []), (1, [], []), (2, [], []), (3, [], []), (4, [], []), (5, [], []), (6, [], [3, 5, 2, 4, 1, 0]), (7, [], []), (8, [], []), (9, [], [7, 6, 0, 1, 2, 3, 4, 5, 8]), (10, [], [8, 9, 0, 1, 2, 3, 4, 5, 6, 7])])], []⟩ TOk mixed Try.func26 rfl rfl (by kernel_rfl) (by kernel_rfl) rfl ?_
  have hen := h.lt e h.Sp.1
  have hln := h.lt N.lv h.Sp.2.1
  have hf := mfind_no (vA := ptrA) keyOk_intA (h.gone hx)
  simp only [intA] at hf
  have c0 : (n + 1 == n) = false := nb (by omega)
  unfold noteA
  simp only [push_cast, Nat.reduceBEq, Nat.reduceAdd, Nat.reduceEqDiff, reduceCtorEq, Nat.reduceLeDiff, Nat.reduceSub, Nat.reduceMul, Nat.reduceLT, Int.reduceEq, Int.reduceLT, Int.reduceLE, Int.reduceBEq, Int.reduceBNe, Int.reduceToNat, Int.reduceNeg, Int.reduceSub, Int.reduceAdd, c0]
  have ep1 : upd (upd H n (some (.cells [.lit (.int .i64 (x.ep : Int)), .lit (.int .i64 (x.reg : Int)), .lit (.int .i64 (x.gen : Int)), .lit (.int .i64 (x.off : Int)), .lit (.int .i64 (x.len : Int))]))) (n + 1) (some (.row false 5 [])) e = _ := (upd_other (by omega)).trans ((upd_other (by omega)).trans h.ep)
  refine callH (none_h ep1) ?_
  rintro _ _ _ ⟨rfl, rfl, rfl⟩
  have lv := h.lv
  have ep := h.ep
  have d1 : (n == e) = false := nb (by omega)
  have d2 : (n + 1 == e) = false := nb (by omega)
  have d3 : (n == N.lv) = false := nb (by omega)
  have d4 : (n + 1 == N.lv) = false := nb (by omega)
  have d5 : (n == n + 1) = false := nb (by omega)
  simp only [push_cast, Nat.reduceBEq, Nat.reduceAdd, Nat.reduceEqDiff, reduceCtorEq, Nat.reduceLeDiff, Nat.reduceSub, Nat.reduceMul, Nat.reduceLT, Int.reduceEq, Int.reduceLT, Int.reduceLE, Int.reduceBEq, Int.reduceBNe, Int.reduceToNat, Int.reduceNeg, Int.reduceSub, Int.reduceAdd, ep, lv, c0, d1, d2, d3, d4, d5, hf]
  exact ⟨⟨_, rfl⟩, by omega, fun j hj => by rw [nb (show n + 1 + 1 ≠ j by omega), nb (show n + 1 ≠ j by omega), nb (show n ≠ j by omega), cond_false, cond_false, cond_false]⟩
theorem loadE_c (h : EpH H n S e N D) {k : Nat} {r : EraD} {x : NoteD} {l : LandD} {s : Nat} (hk : x.ep = D.lo + k) (hr : D.eras[k]? = some r) (hn : lookE r.notes x = some ()) (hpk : PieceOk D.pool x.reg l x.off x.len) (hg : l.gen = x.gen) (hs : l.slabs[x.off / D.pool.size]? = some s) :
    HCalls Try.prog 26 [.ptr e 0, noteA x] H n fun r H' n' => ∃ g, r = .tup [.rw g 1 0 x.len, .lit (.int .i64 0)] ∧ n ≤ g ∧ g < n' ∧ H' g = some (.row true 5 ((D.pool.bytesAt s (x.off % D.pool.size) x.len).map byteA)) ∧ ∀ j, j < n → H' j = H j := by
  refine hcallsC_of (rs := [.tmp 4, .tmp 5]) ⟨[0, 1, 3, 4, 5, 6, 7, 9, 11, 23, 34], [], [], [(3, [(0, [], []), (1, [], []), (2, [], []), (3, [], []), (4, [], []), (5, [], []), (6, [], []), (7, [], []), (8, [], []), (9, [], []), (10, [], [8, 0, 1, 2, 3, 4, 5, 6, 7]), (11, [], [9, 10, 0, 1, 2, 3, 4, 5, 6, 7, 8])]), (6, [(0, [], []), (1, [], []), (2, [], []), (3, [], []), (4, [], []), (5, [], []), (6, [], []), (7, [], []), (8, [], []), (9, [3, 4, 5], []), (10, [], [9, 7, 0, 1, 2, 3, 4, 5, 6]), (11, [], [8, 10, 0, 1, 2, 3, 4, 5, 6, 7, 9])]), (9, [(0, [], []), (1, [], []), (2, [], []), (3, [], []), (4, [], []), (5, [], []), (6, [], [3, 5, 2, 4, 1, 0]), (7, [], []), (8, [], []), (9, [], [7, 6, 0, 1, 2, 3, 4, 5, 8]), (10, [], [8, 9, 0, 1, 2, 3, 4, 5, 6, 7])])], []⟩ TOk mixed Try.func26 rfl rfl (by kernel_rfl) (by kernel_rfl) rfl ?_
  have hen := h.lt e h.Sp.1
  have hln := h.lt N.lv h.Sp.2.1
  have hex := h.entry hr
  rw [← hk] at hex
  obtain ⟨y, hy, hlk, hy1, hy2, hy3⟩ := hex
  have hyn := h.Sp.2.2.2 y (List.mem_of_getElem? hy)
  have hyn1 := h.lt _ hyn.1
  have hyn2 := h.lt _ hyn.2
  obtain ⟨j, z, g1, g2, g3, g4, hf⟩ := mfind_yes (vA := ptrA) keyOk_intA hlk
  simp only [intA, ptrA] at hf
  obtain ⟨j2, z2, u1, u2, u3, u4, hf2⟩ := mfind_yes (vA := unitA) keyOk_note hn
  simp only [noteA, unitA] at hf2
  obtain ⟨Sp, ⟨PN, p1⟩, p2, p3, p4, p5, p6⟩ := h.pool
  have c0 : (n + 1 == n) = false := nb (by omega)
  unfold noteA
  simp only [push_cast, Nat.reduceBEq, Nat.reduceAdd, Nat.reduceEqDiff, reduceCtorEq, Nat.reduceLeDiff, Nat.reduceSub, Nat.reduceMul, Nat.reduceLT, Int.reduceEq, Int.reduceLT, Int.reduceLE, Int.reduceBEq, Int.reduceBNe, Int.reduceToNat, Int.reduceNeg, Int.reduceSub, Int.reduceAdd, c0]
  have ep1 : upd (upd H n (some (.cells [.lit (.int .i64 (x.ep : Int)), .lit (.int .i64 (x.reg : Int)), .lit (.int .i64 (x.gen : Int)), .lit (.int .i64 (x.off : Int)), .lit (.int .i64 (x.len : Int))]))) (n + 1) (some (.row false 5 [])) e = _ := (upd_other (by omega)).trans ((upd_other (by omega)).trans h.ep)
  refine callH (none_h ep1) ?_
  rintro _ _ _ ⟨rfl, rfl, rfl⟩
  have lv := h.lv
  have ep := h.ep
  have d1 : (n == e) = false := nb (by omega)
  have d2 : (n + 1 == e) = false := nb (by omega)
  have d3 : (n == N.lv) = false := nb (by omega)
  have d4 : (n + 1 == N.lv) = false := nb (by omega)
  have d5 : (n == n + 1) = false := nb (by omega)
  have d6 : (n == y.1) = false := nb (by omega)
  have d7 : (n + 1 == y.1) = false := nb (by omega)
  have d8 : (n == y.2) = false := nb (by omega)
  have d9 : (n + 1 == y.2) = false := nb (by omega)
  have d10 : (n + 1 + 1 == n) = false := nb (by omega)
  have d11 : (n + 1 + 1 == e) = false := nb (by omega)
  have d12 : (n + 1 + 1 == y.1) = false := nb (by omega)
  have d13 : (n + 1 + 1 == y.2) = false := nb (by omega)
  simp only [push_cast, Nat.reduceBEq, Nat.reduceAdd, Nat.reduceEqDiff, reduceCtorEq, Nat.reduceLeDiff, Nat.reduceSub, Nat.reduceMul, Nat.reduceLT, Int.reduceEq, Int.reduceLT, Int.reduceLE, Int.reduceBEq, Int.reduceBNe, Int.reduceToNat, Int.reduceNeg, Int.reduceSub, Int.reduceAdd, ep, lv, c0, d1, d2, d3, d4, d5, d6, d7, d8, d9, d10, d11, d12, d13, hf, hf2, hy1, hy2, g2, g4, u2, u4]
  have hL := fun (o1 o2 o3 o4 : Option AO) => load_c (n := n + 1 + 1 + 1) (p1.frame (H' := upd (upd (upd (upd H n o1) (n + 1) o2) (n + 1 + 1) o3) (n + 1 + 1) o4) (n' := n + 1 + 1 + 1) (by omega) fun j hj => by have := p1.lt j hj; rw [upd_other (by omega), upd_other (by omega), upd_other (by omega), upd_other (by omega)]) hpk hs
  rw [hg] at hL
  unfold handA at hL
  refine callHD (hL _ _ _ _) ?_
  rintro _ H5 n5 ⟨g, rfl, hg1, hg2, hgr, k5⟩
  rw [Hv.contD_at]
  refine ⟨by simp only [push_cast, Nat.reduceBEq, Nat.reduceAdd, Nat.reduceEqDiff, reduceCtorEq, Nat.reduceLeDiff, Nat.reduceSub, Nat.reduceMul, Nat.reduceLT, Int.reduceEq, Int.reduceLT, Int.reduceLE, Int.reduceBEq, Int.reduceBNe, Int.reduceToNat, Int.reduceNeg, Int.reduceSub, Int.reduceAdd], ?_⟩
  simp only [push_cast, Nat.reduceBEq, Nat.reduceAdd, Nat.reduceEqDiff, reduceCtorEq, Nat.reduceLeDiff, Nat.reduceSub, Nat.reduceMul, Nat.reduceLT, Int.reduceEq, Int.reduceLT, Int.reduceLE, Int.reduceBEq, Int.reduceBNe, Int.reduceToNat, Int.reduceNeg, Int.reduceSub, Int.reduceAdd]
  exact ⟨g, rfl, by omega, hg2, hgr, fun j hj => (k5 j (by omega)).trans (by rw [upd_other (by omega), upd_other (by omega), upd_other (by omega), upd_other (by omega)])⟩
end
end Go.Proofs.Ytndojmpgadbefaa
