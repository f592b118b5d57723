/- The reference's epochs: loading, collecting, the first one. -/
import Derived.Test.YtndojmpgadbefaaEpRG
set_option linter.unusedVariables false
set_option linter.unusedSimpArgs false
namespace Go.Proofs.Ytndojmpgadbefaa
open Go Go.RowKit Hv
set_option maxRecDepth 20000
set_option maxHeartbeats 4000000
def int5 (a b c o m : Int) : List AV := [.lit (.int .i64 a), .lit (.int .i64 b), .lit (.int .i64 c), .lit (.int .i64 o), .lit (.int .i64 m)]
section
variable {H H' : Hp} {n n' w p : Nat} {S : Nat → Prop} {d : PoolD} {N : REN} {D : EpD} {E : List EraE} {P : List Int} {X : List NoteD}
theorem rload_stale (h : REM H n S w p N d E P X) {a b c o m : Int} (hEl : E.length ≤ 1000000) (ha : a < 1 ∨ (E.length : Int) < a ∨ ∃ (i : Nat) (e : EraE), a = ((i + 1 : Nat) : Int) ∧ E[i]? = some e ∧ e.freed = true) :
    HCalls Try.prog 27 [.ptr w 0, .agg (int5 a b c o m)] H n fun r H' n' => r = .tup [.lit (.string ⟨#[]⟩), .lit (.int .i64 3)] ∧ n ≤ n' ∧ ∀ j, j < n → H' j = H j := by
  refine hcallsC_of (rs := [.tmp 4, .tmp 5]) ⟨[0, 1, 3, 4, 5, 6, 31, 38, 49], [], [], [(1, [(0, [], []), (1, [], []), (2, [], []), (3, [], []), (4, [], []), (5, [], []), (6, [], []), (7, [], []), (8, [], []), (9, [], []), (10, [], []), (11, [], []), (12, [], []), (13, [], []), (14, [], []), (15, [], []), (16, [], []), (17, [], []), (18, [], []), (19, [], []), (20, [], []), (21, [], []), (22, [], []), (23, [], []), (24, [], [])]), (6, [(0, [], []), (1, [], []), (2, [], []), (3, [], []), (4, [], []), (5, [], []), (6, [], []), (7, [], []), (8, [], [])]), (7, [(0, [], []), (1, [], []), (2, [], []), (3, [], []), (4, [], []), (5, [], []), (6, [], [3, 5, 2, 4, 1, 0]), (7, [], []), (8, [], []), (9, [], [7, 6, 0, 1, 2, 3, 4, 5, 8]), (10, [], [8, 9, 0, 1, 2, 3, 4, 5, 6, 7])])], []⟩ TOk mixed Try.func27 rfl rfl (by kernel_rfl) (by kernel_rfl) rfl ?_
  have ep := h.ep
  have ge := h.ge
  have hwl := h.lt w h.Sp.1
  have hgl := h.lt _ h.Sp.2
  have c1 : (n == w) = false := nb (by omega)
  have c2 : (n == N.ge) = false := nb (by omega)
  have k1 : ∀ j, j < n → (bif n == j then some (AO.cells (int5 a b c o m)) else H j) = H j := fun j hj => by rw [nb (show n ≠ j by omega)]; rfl
  unfold int5 at k1 ⊢
  rcases ha with ha | ha | ⟨i, e, ha, he, hf⟩
  · simp only [push_cast, Nat.reduceBEq, Nat.reduceAdd, Nat.reduceEqDiff, reduceCtorEq, Nat.reduceLeDiff, Nat.reduceSub, Nat.reduceMul, Nat.reduceLT, Int.reduceEq, Int.reduceLT, Int.reduceLE, Int.reduceBEq, Int.reduceBNe, Int.reduceToNat, Int.reduceNeg, Int.reduceSub, Int.reduceAdd, ha]
    exact ⟨by omega, k1⟩
  · by_cases h1 : a < 1
    · simp only [push_cast, Nat.reduceBEq, Nat.reduceAdd, Nat.reduceEqDiff, reduceCtorEq, Nat.reduceLeDiff, Nat.reduceSub, Nat.reduceMul, Nat.reduceLT, Int.reduceEq, Int.reduceLT, Int.reduceLE, Int.reduceBEq, Int.reduceBNe, Int.reduceToNat, Int.reduceNeg, Int.reduceSub, Int.reduceAdd, h1]
      exact ⟨by omega, k1⟩
    · have ha' : a > (E.length : Int) := ha
      simp only [push_cast, Nat.reduceBEq, Nat.reduceAdd, Nat.reduceEqDiff, reduceCtorEq, Nat.reduceLeDiff, Nat.reduceSub, Nat.reduceMul, Nat.reduceLT, Int.reduceEq, Int.reduceLT, Int.reduceLE, Int.reduceBEq, Int.reduceBNe, Int.reduceToNat, Int.reduceNeg, Int.reduceSub, Int.reduceAdd, h1, ha, ha', ep, c1]
      exact ⟨by omega, k1⟩
  · have hil := (List.getElem?_eq_some_iff.1 he).1
    have h1 : ¬ a < 1 := by omega
    have h2 : ¬ (E.length : Int) < a := by omega
    have h3 : ¬ a > (E.length : Int) := by omega
    have hw : IntKind.i64.wrap (a - 1) = (i : Int) := by rw [show a - 1 = (i : Int) by omega]; exact IntWalk.i64_in _ (by omega)
    have hil' : (i : Int) < (E.length : Int) := by omega
    have hei : (E.map eraI)[i]? = some [.lit (.int .i64 (e.region : Int)), .lit (.bool true), .lit (.int .i64 (e.bytes : Int))] := by rw [List.getElem?_map, he, ← hf]; rfl
    simp only [push_cast, Nat.reduceBEq, Nat.reduceAdd, Nat.reduceEqDiff, reduceCtorEq, Nat.reduceLeDiff, Nat.reduceSub, Nat.reduceMul, Nat.reduceLT, Int.reduceEq, Int.reduceLT, Int.reduceLE, Int.reduceBEq, Int.reduceBNe, Int.reduceToNat, Int.reduceNeg, Int.reduceSub, Int.reduceAdd, h1, h2, h3, ep, ge, c1, c2, hw, hil', hei]
    exact ⟨by omega, k1⟩
theorem rload_arg (h : REM H n S w p N d E P X) {a b c o m : Int} (hEl : E.length ≤ 1000000) (hXl : X.length ≤ 1000000) {i : Nat} {e : EraE} (ha : a = ((i + 1 : Nat) : Int)) (he : E[i]? = some e) (hf : e.freed = false) (hX : ∀ x ∈ X, ¬ ((x.ep : Int) = a ∧ (x.reg : Int) = b ∧ (x.gen : Int) = c ∧ (x.off : Int) = o ∧ (x.len : Int) = m)) :
    HCalls Try.prog 27 [.ptr w 0, .agg (int5 a b c o m)] H n fun r H' n' => r = .tup [.lit (.string ⟨#[]⟩), .lit (.int .i64 1)] ∧ n ≤ n' ∧ ∀ j, j < n → H' j = H j := by
  refine hcallsC_of (rs := [.tmp 4, .tmp 5]) ⟨[0, 1, 3, 4, 5, 6, 31, 38, 49], [], [], [(1, [(0, [], []), (1, [], []), (2, [], []), (3, [], []), (4, [], []), (5, [], []), (6, [], []), (7, [], []), (8, [], []), (9, [], []), (10, [], []), (11, [], []), (12, [], []), (13, [], []), (14, [], []), (15, [], []), (16, [], []), (17, [], []), (18, [], []), (19, [], []), (20, [], []), (21, [], []), (22, [], []), (23, [], []), (24, [], [])]), (6, [(0, [], []), (1, [], []), (2, [], []), (3, [], []), (4, [], []), (5, [], []), (6, [], []), (7, [], []), (8, [], [])]), (7, [(0, [], []), (1, [], []), (2, [], []), (3, [], []), (4, [], []), (5, [], []), (6, [], [3, 5, 2, 4, 1, 0]), (7, [], []), (8, [], []), (9, [], [7, 6, 0, 1, 2, 3, 4, 5, 8]), (10, [], [8, 9, 0, 1, 2, 3, 4, 5, 6, 7])])], []⟩ TOk mixed Try.func27 rfl rfl (by kernel_rfl) (by kernel_rfl) rfl ?_
  have ep := h.ep
  have ge := h.ge
  have hwl := h.lt w h.Sp.1
  have hgl := h.lt _ h.Sp.2
  have c1 : (n == w) = false := nb (by omega)
  have c2 : (n == N.ge) = false := nb (by omega)
  have k1 : ∀ j, j < n → (upd H n (some (AO.cells (int5 a b c o m)))) j = H j := fun j hj => upd_other (by omega)
  have hil := (List.getElem?_eq_some_iff.1 he).1
  have h1 : ¬ a < 1 := by omega
  have h2 : ¬ (E.length : Int) < a := by omega
  have h3 : ¬ a > (E.length : Int) := by omega
  have hw : IntKind.i64.wrap (a - 1) = (i : Int) := by rw [show a - 1 = (i : Int) by omega]; exact IntWalk.i64_in _ (by omega)
  have hil' : (i : Int) < (E.length : Int) := by omega
  have hei : (E.map eraI)[i]? = some [.lit (.int .i64 (e.region : Int)), .lit (.bool false), .lit (.int .i64 (e.bytes : Int))] := by rw [List.getElem?_map, he, ← hf]; rfl
  unfold int5 at k1 ⊢
  simp only [push_cast, Nat.reduceBEq, Nat.reduceAdd, Nat.reduceEqDiff, reduceCtorEq, Nat.reduceLeDiff, Nat.reduceSub, Nat.reduceMul, Nat.reduceLT, Int.reduceEq, Int.reduceLT, Int.reduceLE, Int.reduceBEq, Int.reduceBNe, Int.reduceToNat, Int.reduceNeg, Int.reduceSub, Int.reduceAdd, h1, h2, h3, ep, ge, c1, c2, hw, hil', hei]
  have hnn : (upd H n (some (AO.cells [.lit (.int .i64 a), .lit (.int .i64 b), .lit (.int .i64 c), .lit (.int .i64 o), .lit (.int .i64 m)]))) n = _ := upd_same _ _ _
  have hN := h.frame (H' := (upd H n (some (AO.cells [.lit (.int .i64 a), .lit (.int .i64 b), .lit (.int .i64 c), .lit (.int .i64 o), .lit (.int .i64 m)])))) (n' := n + 1) (by omega) fun j hj => k1 j (h.lt j hj)
  generalize (upd H n (some (AO.cells [.lit (.int .i64 a), .lit (.int .i64 b), .lit (.int .i64 c), .lit (.int .i64 o), .lit (.int .i64 m)]))) = H1 at k1 hnn hN ⊢
  have ep1 := hN.ep
  refine loopK (fun q s => ∃ (k : Nat), s = ⟨[(0, .ptr w 0), (3, .ptr n 0), (6, .lit (.int .i64 (k : Int)))], H1, n + 1⟩ ∧ k ≤ X.length ∧ q = X.length - k) _ [0, 3, 6] ⟨0, rfl, Nat.zero_le _, rfl⟩ ?_
  rintro q _ ⟨k, rfl, hk, rfl⟩
  have hwk := wrap_nat0 (k := k) (by omega)
  rcases hN.vh with ⟨hv, hi⟩ | ⟨g, hv, hg, hS, _⟩
  · have hX0 : X = [] := List.map_eq_nil_iff.1 hi
    subst hX0
    rw [hv] at ep1
    unfold nilV at ep1
    have hk0 : k = 0 := by simp at hk; exact hk
    subst hk0
    simp only [push_cast, Nat.reduceBEq, Nat.reduceAdd, Nat.reduceEqDiff, reduceCtorEq, Nat.reduceLeDiff, Nat.reduceSub, Nat.reduceMul, Nat.reduceLT, Int.reduceEq, Int.reduceLT, Int.reduceLE, Int.reduceBEq, Int.reduceBNe, Int.reduceToNat, Int.reduceNeg, Int.reduceSub, Int.reduceAdd, ep1, show ¬ ((0 : Nat) : Int) < 0 by decide]
    exact ⟨by omega, k1⟩
  · rw [hv, List.length_map] at ep1
    by_cases hkl : k < X.length
    · have hkl' : (k : Int) < (X.length : Int) := by omega
      obtain ⟨x, hx⟩ : ∃ x, X[k]? = some x := ⟨_, List.getElem?_eq_getElem hkl⟩
      have hxi : (X.map noteI)[k]? = some [.lit (.int .i64 (x.ep : Int)), .lit (.int .i64 (x.reg : Int)), .lit (.int .i64 (x.gen : Int)), .lit (.int .i64 (x.off : Int)), .lit (.int .i64 (x.len : Int))] := by rw [List.getElem?_map, hx]; rfl
      have hxn := hX x (List.mem_of_getElem? hx)
      have hq : ((x.ep : Int) == a && ((x.reg : Int) == b && ((x.gen : Int) == c && ((x.off : Int) == o && (x.len : Int) == m)))) = false := by
        rw [Bool.eq_false_iff]
        intro hc
        simp only [Bool.and_eq_true, beq_iff_eq] at hc
        exact hxn hc
      simp only [push_cast, Nat.reduceBEq, Nat.reduceAdd, Nat.reduceEqDiff, reduceCtorEq, Nat.reduceLeDiff, Nat.reduceSub, Nat.reduceMul, Nat.reduceLT, Int.reduceEq, Int.reduceLT, Int.reduceLE, Int.reduceBEq, Int.reduceBNe, Int.reduceToNat, Int.reduceNeg, Int.reduceSub, Int.reduceAdd, ep1, hkl, hkl', hg, hxi, hnn, hwk, hq]
      exact ⟨_, by omega, k + 1, rfl, hkl, rfl⟩
    · have hkl' : ¬ (k : Int) < (X.length : Int) := by omega
      simp only [push_cast, Nat.reduceBEq, Nat.reduceAdd, Nat.reduceEqDiff, reduceCtorEq, Nat.reduceLeDiff, Nat.reduceSub, Nat.reduceMul, Nat.reduceLT, Int.reduceEq, Int.reduceLT, Int.reduceLE, Int.reduceBEq, Int.reduceBNe, Int.reduceToNat, Int.reduceNeg, Int.reduceSub, Int.reduceAdd, ep1, hkl, hkl']
      exact ⟨by omega, k1⟩
theorem rloadE_c (h : REM H n S w p N d E P X) {x : NoteD} {l : LandD} {s i : Nat} {e : EraE} (hEl : E.length ≤ 1000000) (hXl : X.length ≤ 1000000) (hx : x ∈ X) (ha : x.ep = i + 1) (he : E[i]? = some e) (hf : e.freed = false) (hpk : PieceOk d x.reg l x.off x.len) (hg : l.gen = x.gen) (hs : l.slabs[x.off / d.size]? = some s) :
    HCalls Try.prog 27 [.ptr w 0, noteA x] H n fun r H' n' => r = .tup [.lit (.string ⟨(d.bytesAt s (x.off % d.size) x.len).toArray⟩), .lit (.int .i64 0)] ∧ n ≤ n' ∧ ∀ j, j < n → H' j = H j := by
  refine hcallsC_of (rs := [.tmp 4, .tmp 5]) ⟨[0, 1, 3, 4, 5, 6, 31, 38, 49], [], [], [(1, [(0, [], []), (1, [], []), (2, [], []), (3, [], []), (4, [], []), (5, [], []), (6, [], []), (7, [], []), (8, [], []), (9, [], []), (10, [], []), (11, [], []), (12, [], []), (13, [], []), (14, [], []), (15, [], []), (16, [], []), (17, [], []), (18, [], []), (19, [], []), (20, [], []), (21, [], []), (22, [], []), (23, [], []), (24, [], [])]), (6, [(0, [], []), (1, [], []), (2, [], []), (3, [], []), (4, [], []), (5, [], []), (6, [], []), (7, [], []), (8, [], [])]), (7, [(0, [], []), (1, [], []), (2, [], []), (3, [], []), (4, [], []), (5, [], []), (6, [], [3, 5, 2, 4, 1, 0]), (7, [], []), (8, [], []), (9, [], [7, 6, 0, 1, 2, 3, 4, 5, 8]), (10, [], [8, 9, 0, 1, 2, 3, 4, 5, 6, 7])])], []⟩ TOk mixed Try.func27 rfl rfl (by kernel_rfl) (by kernel_rfl) rfl ?_
  have ep := h.ep
  have ge := h.ge
  have hwl := h.lt w h.Sp.1
  have hgl := h.lt _ h.Sp.2
  have c1 : (n == w) = false := nb (by omega)
  have c2 : (n == N.ge) = false := nb (by omega)
  obtain ⟨a, b, c, o, m⟩ := x
  dsimp only at ha hpk hg hs ⊢
  have k1 : ∀ j, j < n → (upd H n (some (AO.cells (int5 a b c o m)))) j = H j := fun j hj => upd_other (by omega)
  have hil := (List.getElem?_eq_some_iff.1 he).1
  have h1 : ¬ (a : Int) < 1 := by omega
  have h2 : ¬ (E.length : Int) < (a : Int) := by omega
  have h2' : ¬ E.length < a := by omega
  have h3 : ¬ (a : Int) > (E.length : Int) := by omega
  have hw : IntKind.i64.wrap ((a : Int) - 1) = (i : Int) := by rw [show (a : Int) - 1 = (i : Int) by omega]; exact IntWalk.i64_in _ (by omega)
  have hil' : (i : Int) < (E.length : Int) := by omega
  have hei : (E.map eraI)[i]? = some [.lit (.int .i64 (e.region : Int)), .lit (.bool false), .lit (.int .i64 (e.bytes : Int))] := by rw [List.getElem?_map, he, ← hf]; rfl
  unfold int5 at k1
  unfold noteA
  dsimp only
  simp only [push_cast, Nat.reduceBEq, Nat.reduceAdd, Nat.reduceEqDiff, reduceCtorEq, Nat.reduceLeDiff, Nat.reduceSub, Nat.reduceMul, Nat.reduceLT, Int.reduceEq, Int.reduceLT, Int.reduceLE, Int.reduceBEq, Int.reduceBNe, Int.reduceToNat, Int.reduceNeg, Int.reduceSub, Int.reduceAdd, h1, h2, h2', h3, ep, ge, c1, c2, hw, hil', hei]
  have hnn : (upd H n (some (AO.cells [.lit (.int .i64 a), .lit (.int .i64 b), .lit (.int .i64 c), .lit (.int .i64 o), .lit (.int .i64 m)]))) n = _ := upd_same _ _ _
  have hN := h.frame (H' := (upd H n (some (AO.cells [.lit (.int .i64 a), .lit (.int .i64 b), .lit (.int .i64 c), .lit (.int .i64 o), .lit (.int .i64 m)])))) (n' := n + 1) (by omega) fun j hj => k1 j (h.lt j hj)
  generalize (upd H n (some (AO.cells [.lit (.int .i64 a), .lit (.int .i64 b), .lit (.int .i64 c), .lit (.int .i64 o), .lit (.int .i64 m)]))) = H1 at k1 hnn hN ⊢
  have ep1 := hN.ep
  refine loopK (fun q s => ∃ (k : Nat), s = ⟨[(0, .ptr w 0), (3, .ptr n 0), (6, .lit (.int .i64 (k : Int)))], H1, n + 1⟩ ∧ k ≤ X.length ∧ q = X.length - k ∧ ∀ j y, j < k → X[j]? = some y → y ≠ ⟨a, b, c, o, m⟩) _ [0, 3, 6] ⟨0, rfl, Nat.zero_le _, rfl, fun j y hj => absurd hj (Nat.not_lt_zero _)⟩ ?_
  rintro q _ ⟨k, rfl, hk, rfl, hbf⟩
  have hwk := wrap_nat0 (k := k) (by omega)
  rcases hN.vh with ⟨hv, hi⟩ | ⟨g, hv, hg2, hS, _⟩
  · have hX0 : X = [] := List.map_eq_nil_iff.1 hi
    subst hX0
    cases hx
  · rw [hv, List.length_map] at ep1
    by_cases hkl : k < X.length
    · have hkl' : (k : Int) < (X.length : Int) := by omega
      obtain ⟨x, hxk⟩ : ∃ x, X[k]? = some x := ⟨_, List.getElem?_eq_getElem hkl⟩
      have hxi : (X.map noteI)[k]? = some [.lit (.int .i64 (x.ep : Int)), .lit (.int .i64 (x.reg : Int)), .lit (.int .i64 (x.gen : Int)), .lit (.int .i64 (x.off : Int)), .lit (.int .i64 (x.len : Int))] := by rw [List.getElem?_map, hxk]; rfl
      by_cases hxe : x = ⟨a, b, c, o, m⟩
      · subst hxe
        obtain ⟨Sp, ⟨PN, O, p1⟩, p2, p3⟩ := hN.pool
        have hL := rload_c p1 hpk hs
        rw [hg] at hL
        unfold handA at hL
        simp only [push_cast, Nat.reduceBEq, Nat.reduceAdd, Nat.reduceEqDiff, reduceCtorEq, Nat.reduceLeDiff, Nat.reduceSub, Nat.reduceMul, Nat.reduceLT, Int.reduceEq, Int.reduceLT, Int.reduceLE, Int.reduceBEq, Int.reduceBNe, Int.reduceToNat, Int.reduceNeg, Int.reduceSub, Int.reduceAdd, ep1, hkl, hkl', hg2, hxi, hnn]
        refine callHD hL ?_
        rintro _ H5 n5 ⟨rfl, hn5, k5⟩
        have hn5 : n + 1 ≤ n5 := hn5
        have k5 : ∀ j, j < n + 1 → H5 j = H1 j := k5
        rw [Hv.contD_at]
        refine ⟨by simp only [push_cast, Nat.reduceBEq, Nat.reduceAdd, Nat.reduceEqDiff, reduceCtorEq, Nat.reduceLeDiff, Nat.reduceSub, Nat.reduceMul, Nat.reduceLT, Int.reduceEq, Int.reduceLT, Int.reduceLE, Int.reduceBEq, Int.reduceBNe, Int.reduceToNat, Int.reduceNeg, Int.reduceSub, Int.reduceAdd], ?_⟩
        simp only [push_cast, Nat.reduceBEq, Nat.reduceAdd, Nat.reduceEqDiff, reduceCtorEq, Nat.reduceLeDiff, Nat.reduceSub, Nat.reduceMul, Nat.reduceLT, Int.reduceEq, Int.reduceLT, Int.reduceLE, Int.reduceBEq, Int.reduceBNe, Int.reduceToNat, Int.reduceNeg, Int.reduceSub, Int.reduceAdd]
        exact ⟨by omega, fun j hj => (k5 j (by omega)).trans (k1 j hj)⟩
      · have hq : (((x.ep : Nat) : Int) == (a : Int) && (((x.reg : Nat) : Int) == (b : Int) && (((x.gen : Nat) : Int) == (c : Int) && (((x.off : Nat) : Int) == (o : Int) && ((x.len : Nat) : Int) == (m : Int))))) = false := by
          rw [Bool.eq_false_iff]
          intro hc
          simp only [Bool.and_eq_true, beq_iff_eq] at hc
          obtain ⟨q1, q2, q3, q4, q5⟩ := hc
          obtain ⟨a', b', c', o', m'⟩ := x
          dsimp only at q1 q2 q3 q4 q5
          refine hxe ?_
          rw [NoteD.mk.injEq]
          omega
        simp only [push_cast, Nat.reduceBEq, Nat.reduceAdd, Nat.reduceEqDiff, reduceCtorEq, Nat.reduceLeDiff, Nat.reduceSub, Nat.reduceMul, Nat.reduceLT, Int.reduceEq, Int.reduceLT, Int.reduceLE, Int.reduceBEq, Int.reduceBNe, Int.reduceToNat, Int.reduceNeg, Int.reduceSub, Int.reduceAdd, ep1, hkl, hkl', hg2, hxi, hnn, hwk, hq]
        refine ⟨_, by omega, k + 1, rfl, hkl, rfl, fun j y hj hy => ?_⟩
        by_cases hjk : j = k
        · rw [hjk, hxk] at hy
          injection hy with hy
          rw [← hy]; exact hxe
        · exact hbf j y (by omega) hy
    · exfalso
      obtain ⟨j, hj⟩ := List.mem_iff_getElem?.1 hx
      have hjl := (List.getElem?_eq_some_iff.1 hj).1
      exact hbf j _ (by omega) hj rfl
theorem rcollect_c (h : REM H n S w p N D.pool E P X) (hr : RefP D E P X) (hw : EpW D) (hnow1 : 1 ≤ D.now) (hnowB : D.now ≤ 100000) (hP : P.length ≤ 100000) {z : Int} {c : Nat} (hz : leastP D.now P = z) (hz1 : 1 ≤ z) (hc : (D.lo : Int) + c = z ∨ (z ≤ D.lo ∧ c = 0)) (hcl : c < D.eras.length) :
    HCalls Try.prog 31 [.ptr w 0] H n fun r H' n' => r = .lit (.int .i64 (c : Int)) ∧ ∃ S' E', RE H' n' S' w p (D.dropped c).pool E' P X ∧ RefP (D.dropped c) E' P X ∧ n ≤ n' ∧ ∀ j, j < n → ¬ S j → H' j = H j ∧ ¬ S' j := by
  refine hcallsC_of (rs := [.tmp 2]) ⟨[0, 2, 3, 4, 9, 20], [], [], [(6, [(0, [], []), (1, [], []), (2, [], []), (3, [], []), (4, [], []), (5, [], []), (6, [], []), (7, [], []), (8, [], []), (9, [], []), (10, [], []), (11, [], []), (12, [], [3, 11, 2, 10, 1, 9, 0, 7, 8, 6, 5, 4])])], []⟩ TOk mixed Try.func31 rfl rfl (by kernel_rfl) (by kernel_rfl) rfl ?_
  have hcnt := hw.ok.cnt
  have hlo := hw.ok.pos.1
  have hzn : z ≤ D.now := by rw [← hz]; exact (leastP_is P D.now).1
  simp only [push_cast, Nat.reduceBEq, Nat.reduceAdd, Nat.reduceEqDiff, reduceCtorEq, Nat.reduceLeDiff, Nat.reduceSub, Nat.reduceMul, Nat.reduceLT, Int.reduceEq, Int.reduceLT, Int.reduceLE, Int.reduceBEq, Int.reduceBNe, Int.reduceToNat, Int.reduceNeg, Int.reduceSub, Int.reduceAdd]
  refine loopK (fun q s => ∃ (i n4 : Nat) (H4 : Hp) (S4 : Nat → Prop) (N4 : REN) (E4 : List EraE), s = ⟨[(0, .ptr w 0), (3, .lit (.int .i64 ((i + 1 - D.lo : Nat) : Int))), (4, .lit (.int .i64 (i : Int)))], H4, n4⟩ ∧ (i : Int) ≤ z - 1 ∧ q = (z - 1 - i).toNat ∧ n ≤ n4 ∧ REM H4 n4 S4 w p N4 (D.dropped (i + 1 - D.lo)).pool E4 P X ∧ RefP (D.dropped (i + 1 - D.lo)) E4 P X ∧ ∀ j, j < n → ¬ S j → H4 j = H j ∧ ¬ S4 j) _ [0, 3, 4]
    ⟨0, n, H, S, N, E, by rw [show 0 + 1 - D.lo = 0 by omega]; rfl, by omega, rfl, Nat.le_refl _, by rw [show 0 + 1 - D.lo = 0 by omega]; exact h, by rw [show 0 + 1 - D.lo = 0 by omega]; exact hr, fun j hj hs => ⟨rfl, hs⟩⟩ ?_
  rintro q _ ⟨i, n4, H4, S4, N4, E4, rfl, hi, rfl, hn4, h4, hr4, hfr⟩
  have hk0 : i + 1 - D.lo ≤ D.eras.length := by omega
  obtain ⟨d1, d2, d3, d4, d5, d6⟩ := dropped_is (i + 1 - D.lo) D hk0
  have hEl := hr4.len
  rw [d3] at hEl
  have hwz : IntKind.i64.wrap (z - 1) = z - 1 := IntWalk.i64_in _ (by omega)
  have hold := roldest_c h4 hP
  rw [hEl, hz] at hold
  simp only [push_cast, Nat.reduceBEq, Nat.reduceAdd, Nat.reduceEqDiff, reduceCtorEq, Nat.reduceLeDiff, Nat.reduceSub, Nat.reduceMul, Nat.reduceLT, Int.reduceEq, Int.reduceLT, Int.reduceLE, Int.reduceBEq, Int.reduceBNe, Int.reduceToNat, Int.reduceNeg, Int.reduceSub, Int.reduceAdd]
  refine callH hold ?_
  rintro r H5 n5 ⟨hr5, hH, hn⟩
  rw [hr5, hH, hn]
  have hwi := wrap_nat0 (k := i) (by omega)
  by_cases hiz : (i : Int) < z - 1
  · obtain ⟨e, he⟩ : ∃ e, E4[i]? = some e := ⟨_, List.getElem?_eq_getElem (by omega)⟩
    have hei : (E4.map eraI)[i]? = some [.lit (.int .i64 (e.region : Int)), .lit (.bool e.freed), .lit (.int .i64 (e.bytes : Int))] := by rw [List.getElem?_map, he]; rfl
    have ep := h4.ep
    have ge := h4.ge
    have hil : (i : Int) < (E4.length : Int) := by omega
    by_cases hlt : i + 1 < D.lo
    · have hf := hr4.old i e he (by rw [d2]; omega)
      have e0 : i + 1 - D.lo = 0 := by omega
      have e1 : i + 1 + 1 - D.lo = 0 := by omega
      rw [e0] at h4 hr4 ⊢
      simp only [push_cast, Nat.reduceBEq, Nat.reduceAdd, Nat.reduceEqDiff, reduceCtorEq, Nat.reduceLeDiff, Nat.reduceSub, Nat.reduceMul, Nat.reduceLT, Int.reduceEq, Int.reduceLT, Int.reduceLE, Int.reduceBEq, Int.reduceBNe, Int.reduceToNat, Int.reduceNeg, Int.reduceSub, Int.reduceAdd, hwz, hiz, ep, ge, hil, hei, hf, hwi]
      exact ⟨_, by omega, i + 1, n4, H4, S4, N4, E4, by rw [e1]; rfl, by omega, rfl, hn4, by rw [e1]; exact h4, by rw [e1]; exact hr4, hfr⟩
    · obtain ⟨k, hk⟩ : ∃ k, i + 1 - D.lo = k := ⟨_, rfl⟩
      have e1 : i + 1 + 1 - D.lo = k + 1 := by omega
      rw [hk] at h4 hr4 d1 d2 d3 ⊢
      obtain ⟨hf, r, hrr, g1, g2⟩ := hr4.live i 0 e he (by rw [d2]; omega)
      have hkc : k < c := by omega
      obtain ⟨r', r2, rs, hers⟩ : ∃ r r2 rs, (D.dropped k).eras = r :: r2 :: rs := by
        rw [d1]
        have h1 : k < D.eras.length := by omega
        have h2 : k + 1 < D.eras.length := by omega
        exact ⟨_, _, _, by rw [List.drop_eq_getElem_cons h1, List.drop_eq_getElem_cons h2]⟩
      rw [hers] at hrr
      have hrr : some r' = some r := hrr
      injection hrr with hrr
      subst hrr
      have hwk : EpW (D.dropped k) := EpW.dropped k D (by omega) hw
      obtain ⟨l, hl, hth⟩ := hwk.ok.reg r' (by rw [hers]; exact List.mem_cons_self)
      have hgetD : (D.dropped k).pool.lands.getD r'.region landZ = l := by rw [List.getD_eq_getElem?_getD, hl]; rfl
      have hsn := dropped_snoc k D (by omega) r' (by rw [hers]; rfl)
      rw [hgetD] at hsn
      rw [← g1] at hl
      obtain ⟨Sp, ⟨PN, O, p1⟩, p2, p3⟩ := h4.pool
      simp only [push_cast, Nat.reduceBEq, Nat.reduceAdd, Nat.reduceEqDiff, reduceCtorEq, Nat.reduceLeDiff, Nat.reduceSub, Nat.reduceMul, Nat.reduceLT, Int.reduceEq, Int.reduceLT, Int.reduceLE, Int.reduceBEq, Int.reduceBNe, Int.reduceToNat, Int.reduceNeg, Int.reduceSub, Int.reduceAdd, hwz, hiz, ep, ge, hil, hei, hf]
      refine callHD (rfree_c p1 hl hth) ?_
      rintro _ H6 n6 ⟨rfl, Sq, q1, hn6, k6⟩
      have hn6 : n4 ≤ n6 := hn6
      have h6 := h4.pooled p2 p3 q1 hn6 k6
      have ep6 := h6.ep
      have ge6 := h6.ge
      obtain ⟨m2, m3, m4, m5⟩ := h6.nes
      have f1 : (N4.ge == w) = false := nb m2
      have hwk1 := wrap_nat0 (k := k) (by omega)
      rw [Hv.contD_at]
      refine ⟨by simp only [push_cast, Nat.reduceBEq, Nat.reduceAdd, Nat.reduceEqDiff, reduceCtorEq, Nat.reduceLeDiff, Nat.reduceSub, Nat.reduceMul, Nat.reduceLT, Int.reduceEq, Int.reduceLT, Int.reduceLE, Int.reduceBEq, Int.reduceBNe, Int.reduceToNat, Int.reduceNeg, Int.reduceSub, Int.reduceAdd], ?_⟩
      simp only [push_cast, Nat.reduceBEq, Nat.reduceAdd, Nat.reduceEqDiff, reduceCtorEq, Nat.reduceLeDiff, Nat.reduceSub, Nat.reduceMul, Nat.reduceLT, Int.reduceEq, Int.reduceLT, Int.reduceLE, Int.reduceBEq, Int.reduceBNe, Int.reduceToNat, Int.reduceNeg, Int.reduceSub, Int.reduceAdd, ep6, ge6, f1, hil, hei, hwi, hwk1]
      have hset : (E4.map eraI).set i [.lit (.int .i64 (e.region : Int)), .lit (.bool true), .lit (.int .i64 (e.bytes : Int))] = (E4.set i ⟨e.region, true, e.bytes⟩).map eraI := by rw [List.map_set]; rfl
      rw [hset]
      have hE6 := h6.eras (g := N4.ge) (E' := E4.set i ⟨e.region, true, e.bytes⟩) (n' := n6) (H' := upd H6 N4.ge (some (.row true 113 ((E4.set i ⟨e.region, true, e.bytes⟩).map eraI)))) (Nat.le_refl _) (by rw [upd_other m2, List.length_set]; exact ep6) (upd_same _ _ _) (h6.lt _ h6.Sp.2) (.inl rfl) (fun j hj q1 q2 => upd_other (Ne.symm q2))
      have hi1 : (D.dropped k).lo - 1 = i := by rw [d2]; omega
      have hR6 := hr4.drop1 (l := l) hers (by rw [d2]; omega) (by rw [hi1]; exact he)
      rw [hi1, ← hsn] at hR6
      have hpe : (D.dropped k).pool.freed e.region l = (D.dropped (k + 1)).pool := by rw [hsn, g1]; rfl
      rw [hpe] at hE6
      refine ⟨_, by omega, i + 1, n6, _, _, _, E4.set i ⟨e.region, true, e.bytes⟩, by rw [e1]; rfl, by omega, rfl, by omega, by rw [e1]; exact hE6, by rw [e1]; exact hR6, fun j hj hs => ⟨?_, ?_⟩⟩
      · have h4j := (hfr j hj hs).2
        rw [upd_other (fun q => h4j (by rw [← q]; exact h4.Sp.2)), (k6 j (by omega) fun q => h4j (p2 j q)).1]
        exact (hfr j hj hs).1
      · have h4j := (hfr j hj hs).2
        rintro ((q | q) | q)
        · exact h4j q
        · exact (k6 j (by omega) fun q => h4j (p2 j q)).2 q
        · exact h4j (by rw [q]; exact h4.Sp.2)
  · have hce : i + 1 - D.lo = c := by omega
    rw [hce] at h4 hr4 ⊢
    simp only [push_cast, Nat.reduceBEq, Nat.reduceAdd, Nat.reduceEqDiff, reduceCtorEq, Nat.reduceLeDiff, Nat.reduceSub, Nat.reduceMul, Nat.reduceLT, Int.reduceEq, Int.reduceLT, Int.reduceLE, Int.reduceBEq, Int.reduceBNe, Int.reduceToNat, Int.reduceNeg, Int.reduceSub, Int.reduceAdd, hwz, hiz]
    exact ⟨S4, E4, ⟨N4, h4⟩, hr4, hn4, hfr⟩
theorem radv0_c (hw0 : H w = some (.cells [.ptr p 0, .lit (.slice none 0 0), .lit (.slice none 0 0), .lit (.slice none 0 0)])) (hwn : w < n) {Sp : Nat → Prop} (hp : RP H n Sp p d) (hSw : ¬ Sp w) {i : Nat} {l : LandD} (hl : d.lands[i]? = some l) (hf : l.there = false) (hb : ∀ (j : Nat) (l : LandD), j < i → d.lands[j]? = some l → l.there = true) (hg : l.gen ≤ 1000000000) :
    HCalls Try.prog 29 [.ptr w 0] H n (REP H n (fun j => Sp j ∨ j = w) w p (d.made i l) [⟨i, false, 0⟩] [] [] (.tup [.lit (.int .i64 1), .lit (.int .i64 0)])) := by
  refine hcallsC_of (rs := [.tmp 2, .tmp 3]) ⟨[0, 2, 3, 4, 5, 15], [25], [], [], []⟩ TOk mixed Try.func29 rfl rfl (by kernel_rfl) (by kernel_rfl) rfl ?_
  obtain ⟨PN, O, p1⟩ := hp
  simp only [push_cast, Nat.reduceBEq, Nat.reduceAdd, Nat.reduceEqDiff, reduceCtorEq, Nat.reduceLeDiff, Nat.reduceSub, Nat.reduceMul, Nat.reduceLT, Int.reduceEq, Int.reduceLT, Int.reduceLE, Int.reduceBEq, Int.reduceBNe, Int.reduceToNat, Int.reduceNeg, Int.reduceSub, Int.reduceAdd, hw0]
  refine callH (rmake_c p1 hl hf hb hg) ?_
  rintro _ H1 n1 ⟨rfl, Sq, q1, hn1, k1⟩
  have hn1 : n ≤ n1 := hn1
  have k1 : ∀ j, j < n → ¬ Sp j → H1 j = H j ∧ ¬ Sq j := k1
  have hw1 := (k1 w hwn hSw).1.trans hw0
  have e3 : (n1 == w) = false := nb (by omega)
  have e6 : (n1 + 1 == w) = false := nb (by omega)
  simp only [push_cast, Nat.reduceBEq, Nat.reduceAdd, Nat.reduceEqDiff, reduceCtorEq, Nat.reduceLeDiff, Nat.reduceSub, Nat.reduceMul, Nat.reduceLT, Int.reduceEq, Int.reduceLT, Int.reduceLE, Int.reduceBEq, Int.reduceBNe, Int.reduceToNat, Int.reduceNeg, Int.reduceSub, Int.reduceAdd, hw1, e3, e6]
  have hq := q1.lt
  have hwq : ¬ Sq w := (k1 w hwn hSw).2
  refine ⟨rfl, fun j => Sq j ∨ j = w ∨ j = n1 + 1, ⟨⟨n1 + 1, nilV, nilV⟩, ⟨upd_same _ _ _, ?_, .inl ⟨rfl, rfl⟩, .inl ⟨rfl, rfl⟩, ⟨Sq, q1.frame (by omega) fun j hj => ?_, fun j hj => .inl hj, hwq, fun hs => by have := hq (n1 + 1) hs; omega, notIn_nil, notIn_nil⟩, ⟨.inr (.inl rfl), .inr (.inr rfl)⟩, fun j hj => ?_⟩⟩, by omega, fun j hj hs => ⟨?_, ?_⟩⟩
  · show upd _ w _ (n1 + 1) = _
    rw [upd_other (by omega), upd_same]; rfl
  · have := hq j hj
    rw [upd_other (fun q => hwq (by rw [q]; exact hj)), upd_other (by omega), upd_other (by omega)]
  · rcases hj with hj | rfl | rfl
    · have := hq j hj; omega
    · omega
    · omega
  · rw [upd_other (fun q => hs (.inr q.symm)), upd_other (by omega), upd_other (by omega)]
    exact (k1 j hj fun q => hs (.inl q)).1
  · rintro (q | q | q)
    · exact (k1 j hj fun q => hs (.inl q)).2 q
    · exact hs (.inr q)
    · omega
theorem rnewE_c {Sp : Nat → Prop} (hp : RP H n Sp p d) {i : Nat} {l : LandD} (hl : d.lands[i]? = some l) (hf : l.there = false) (hb : ∀ (j : Nat) (l : LandD), j < i → d.lands[j]? = some l → l.there = true) (hg : l.gen ≤ 1000000000) :
    HCalls Try.prog 18 [.ptr p 0] H n fun r H' n' => ∃ w S', r = .tup [.ptr w 0, .lit (.int .i64 0)] ∧ RE H' n' S' w p (d.made i l) [⟨i, false, 0⟩] [] [] ∧ n ≤ n' ∧ ∀ j, j < n → ¬ Sp j → H' j = H j ∧ ¬ S' j := by
  refine hcallsC_of (rs := [.tmp 2, .tmp 3]) ⟨[0, 2, 3, 4, 6, 16], [], [], [], []⟩ TOk mixed Try.func18 rfl rfl (by kernel_rfl) (by kernel_rfl) rfl ?_
  simp only [push_cast, Nat.reduceBEq, Nat.reduceAdd, Nat.reduceEqDiff, reduceCtorEq, Nat.reduceLeDiff, Nat.reduceSub, Nat.reduceMul, Nat.reduceLT, Int.reduceEq, Int.reduceLT, Int.reduceLE, Int.reduceBEq, Int.reduceBNe, Int.reduceToNat, Int.reduceNeg, Int.reduceSub, Int.reduceAdd]
  have hnS : ¬ Sp n := fun hs => by have := hp.lt _ hs; omega
  refine callH (radv0_c (w := n) (n := n + 1) (upd_same _ _ _) (Nat.lt_succ_self _) (hp.frame (by omega) fun j hj => upd_other (by have := hp.lt j hj; omega)) hnS hl hf hb hg) ?_
  rintro _ H1 n1 ⟨rfl, S1, h1, hn1, k1⟩
  have hn1 : n + 1 ≤ n1 := hn1
  simp only [push_cast, Nat.reduceBEq, Nat.reduceAdd, Nat.reduceEqDiff, reduceCtorEq, Nat.reduceLeDiff, Nat.reduceSub, Nat.reduceMul, Nat.reduceLT, Int.reduceEq, Int.reduceLT, Int.reduceLE, Int.reduceBEq, Int.reduceBNe, Int.reduceToNat, Int.reduceNeg, Int.reduceSub, Int.reduceAdd]
  refine ⟨n, S1, rfl, h1, by omega, fun j hj hs => ?_⟩
  have q := k1 j (show j < n + 1 by omega) (by rintro (q | q); exact hs q; omega)
  exact ⟨q.1.trans (upd_other (by omega)), q.2⟩
end
end Go.Proofs.Ytndojmpgadbefaa
