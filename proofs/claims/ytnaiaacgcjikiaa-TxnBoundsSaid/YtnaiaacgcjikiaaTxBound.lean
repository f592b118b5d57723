/- Chapter 21's statement TxnBounds, by the walk over a heap. -/
import Derived.Test.YtnaiaacgcjikiaaTxBoundP
set_option linter.unusedVariables false
set_option linter.unusedSimpArgs false
namespace Go.Proofs.Ytnaiaacgcjikiaa
open Go Go.RowKit Hv
set_option maxRecDepth 20000
set_option maxHeartbeats 8000000
theorem Sys.psLt {H : Hp} {n b : Nat} {S : Nat → Prop} {Ps : List (Nat × Nat)} {D : SysD} (h : Sys H n S b Ps D) {i : Nat} (hi : i < D.txns.length) : ∃ x, Ps[i]? = some x := ⟨_, List.getElem?_eq_getElem (by rw [h.len]; exact hi)⟩
theorem set_self {α : Type} {l : List α} {i : Nat} {t : α} (h : l[i]? = some t) : l.set i t = l := by
  obtain ⟨hlt, rfl⟩ := List.getElem?_eq_some_iff.1 h
  exact List.set_getElem_self hlt
theorem strOf_one {j : Nat} (h : j < 256) : strOfNums [(j : Int)] = ⟨#[UInt8.ofNat j]⟩ := by
  have := strOf_byL [UInt8.ofNat j]
  rw [List.map_singleton, UInt8.toNat_ofNat', Nat.mod_eq_of_lt h] at this
  exact this
theorem keyK_app (j : Nat) : (⟨#[107]⟩ : ByteArray) ++ ⟨#[UInt8.ofNat j]⟩ = keyK j := by
  rw [ByteArray.ext_iff, ByteArray.data_append]; rfl
theorem u8_wrap {j : Nat} (h : j < 256) : IntKind.u8.wrap (j : Int) = (j : Int) := by
  simp [IntKind.wrap, IntKind.bits, IntKind.signed]
  omega
theorem bytesOf_one (z : Int) : bytesOf [[AV.lit (.int .u8 z)]] = some [z] := rfl
theorem TxnBounds_h (over : Int) : Hv.ACalls Try.prog 4 [.lit (.int .i64 over)] (.lit (.bool true)) := by
  refine acallsC_of (rs := [.tmp 2]) ⟨[0, 2, 3, 4, 5, 6, 7, 9, 10, 11, 12, 14, 17, 27, 57, 64, 66, 76], [], [], []⟩ TOk mixed Try.func4 rfl rfl (by kernel_rfl) (by kernel_rfl) rfl (List.forall_mem_cons.2 ⟨by simp [noId_lit], fun x h => absurd h List.not_mem_nil⟩) (.lit _) ?_
  simp only [push_cast, Nat.reduceBEq, Nat.reduceAdd, Nat.reduceEqDiff, reduceCtorEq, Nat.reduceLeDiff, Nat.reduceSub, Nat.reduceMul, Nat.reduceLT, Int.reduceEq, Int.reduceLT, Int.reduceLE, Int.reduceBEq, Int.reduceBNe, Int.reduceToNat, Int.reduceNeg, Int.reduceSub, Int.reduceAdd]
  refine callH races_h ?_
  rintro _ H0 n0 ⟨rfl, hn0, _⟩
  simp only [push_cast, Nat.reduceBEq, Nat.reduceAdd, Nat.reduceEqDiff, reduceCtorEq, Nat.reduceLeDiff, Nat.reduceSub, Nat.reduceMul, Nat.reduceLT, Int.reduceEq, Int.reduceLT, Int.reduceLE, Int.reduceBEq, Int.reduceBNe, Int.reduceToNat, Int.reduceNeg, Int.reduceSub, Int.reduceAdd]
  refine callH new_c ?_
  rintro _ H1 _ ⟨rfl, rfl, h1, _⟩
  dsimp only at h1
  simp only [push_cast, Nat.reduceBEq, Nat.reduceAdd, Nat.reduceEqDiff, reduceCtorEq, Nat.reduceLeDiff, Nat.reduceSub, Nat.reduceMul, Nat.reduceLT, Int.reduceEq, Int.reduceLT, Int.reduceLE, Int.reduceBEq, Int.reduceBNe, Int.reduceToNat, Int.reduceNeg, Int.reduceSub, Int.reduceAdd]
  obtain ⟨b, hb⟩ : ∃ b, n0 + 3 = b := ⟨_, rfl⟩
  obtain ⟨g, hg⟩ : ∃ g, n0 + 4 = g := ⟨_, rfl⟩
  rw [hb] at h1
  simp only [hb, hg]
  rw [hg] at h1
  have hO1 : Own (upd H1 g (some (.row false 28 []))) (g + 1) (fun j => n0 ≤ j ∧ j < g) g (.row false 28 []) := ⟨upd_same _ _ _, Nat.lt_succ_self _, fun hh => by have := hh.2; omega⟩
  have h1' := h1.new (o := some (.row false 28 [])) (Nat.le_refl g) (Nat.le_succ g)
  refine loopK (fun q s => ∃ (i : Nat) (H4 : Hp) (nn g4 : Nat) (S : Nat → Prop) (Ps : List (Nat × Nat)), s = ⟨[(0, .lit (.int .i64 over)), (3, .ptr b 0), (4, .rw g4 1 0 i), (5, .lit (.int .i64 (i : Int)))], H4, nn⟩ ∧ i ≤ 16 ∧ q = 16 - i ∧ Sys H4 nn S b Ps (openD i) ∧ Own H4 nn S g4 (.row false 28 (Ps.map ptrI))) _ [0, 3, 4, 5]
    ⟨0, _, _, g, _, [], rfl, Nat.zero_le _, rfl, h1', hO1⟩ ?_
  rintro q _ ⟨i, H4, nn, g4, S, Ps, rfl, hi, rfl, hD, hO⟩
  have hPl : Ps.length = i := by rw [hD.len]; simp [openD]
  by_cases hin : i < 16
  · have hin' : (i : Int) < 16 := by omega
    have hop : openN (openD i) < 16 := by rw [openN_openD]; exact hin
    simp only [push_cast, Nat.reduceBEq, Nat.reduceAdd, Nat.reduceEqDiff, reduceCtorEq, Nat.reduceLeDiff, Nat.reduceSub, Nat.reduceMul, Nat.reduceLT, Int.reduceEq, Int.reduceLT, Int.reduceLE, Int.reduceBEq, Int.reduceBNe, Int.reduceToNat, Int.reduceNeg, Int.reduceSub, Int.reduceAdd, hin']
    refine callH (begin_c hD (i : Int) ⟨by omega, by omega⟩ hop) ?_
    rintro _ H5 n5 ⟨rfl, S5, hD5, hn5, k5⟩
    rw [openD_begun] at hD5
    have hO5 := hO.keep hn5 k5
    have hG5 := hO5.at
    have e1 : (n5 == g4) = false := nb (by have := hO5.2.1; omega)
    have q5 : (i + 1) * 8 ≤ 140737488355328 := by omega
    simp only [push_cast, Nat.reduceBEq, Nat.reduceAdd, Nat.reduceEqDiff, reduceCtorEq, Nat.reduceLeDiff, Nat.reduceSub, Nat.reduceMul, Nat.reduceLT, Int.reduceEq, Int.reduceLT, Int.reduceLE, Int.reduceBEq, Int.reduceBNe, Int.reduceToNat, Int.reduceNeg, Int.reduceSub, Int.reduceAdd, hG5, hPl, List.length_map, e1, q5, wrap_nat0 (k := i) (by omega)]
    refine ⟨_, by omega, i + 1, _, _, n5 + 1, S5, Ps ++ [(nn + 1, nn)], rfl, by omega, rfl, ((hD5.new (Nat.le_refl _) (Nat.le_succ _)).u hO5.2.2).new (Nat.le_refl _) (Nat.le_succ _), (upd_same _ _ _).trans (by rw [List.map_append]; rfl), Nat.lt_succ_self _, hD5.nu (by omega)⟩
  · obtain rfl : i = 16 := by omega
    simp only [push_cast, Nat.reduceBEq, Nat.reduceAdd, Nat.reduceEqDiff, reduceCtorEq, Nat.reduceLeDiff, Nat.reduceSub, Nat.reduceMul, Nat.reduceLT, Int.reduceEq, Int.reduceLT, Int.reduceLE, Int.reduceBEq, Int.reduceBNe, Int.reduceToNat, Int.reduceNeg, Int.reduceSub, Int.reduceAdd]
    refine callH (begin_full hD 3 (by decide) (by rw [openN_openD]; exact Nat.le_refl _)) ?_
    rintro _ _ _ ⟨rfl, rfl, rfl⟩
    obtain ⟨k, hk, hm1, hm2⟩ := u64_mod over (K := 16) (by decide) (by decide)
    simp only [show ((16 : Nat) : Int) = 16 from rfl] at hm1
    obtain ⟨x, hx⟩ := hD.psLt (i := k) (by simpa [openD] using hk)
    have hxr : (Ps.map ptrI)[k]? = some [.ptr x.1 0] := by rw [List.getElem?_map, hx]; rfl
    have hG := hO.at
    have htk : (Ps.map ptrI).take 16 = Ps.map ptrI := List.take_of_length_le (by rw [List.length_map, hPl]; exact Nat.le_refl _)
    have hb16 : Nat.ble 16 16 = true := rfl
    have hk' : (k : Int) < 16 := by omega
    have tIx : (openD 16).txns[k]? = some (mkT k) := by
      show ((List.range 16).map mkT)[k]? = _
      rw [List.getElem?_map, List.getElem?_range hk]; rfl
    simp only [push_cast, Nat.reduceBEq, Nat.reduceAdd, Nat.reduceEqDiff, reduceCtorEq, Nat.reduceLeDiff, Nat.reduceSub, Nat.reduceMul, Nat.reduceLT, Int.reduceEq, Int.reduceLT, Int.reduceLE, Int.reduceBEq, Int.reduceBNe, Int.reduceToNat, Int.reduceNeg, Int.reduceSub, Int.reduceAdd, hm1, hm2, hG, hPl, hb16, htk, hxr, ptrI, hk']
    refine callH (abort_c hD hx tIx rfl) ?_
    rintro _ H5 n5 ⟨rfl, S5, hD5, hn5, k5⟩
    have hD5 : Sys H5 n5 S5 b Ps (cutD k) := hD5
    simp only [push_cast, Nat.reduceBEq, Nat.reduceAdd, Nat.reduceEqDiff, reduceCtorEq, Nat.reduceLeDiff, Nat.reduceSub, Nat.reduceMul, Nat.reduceLT, Int.reduceEq, Int.reduceLT, Int.reduceLE, Int.reduceBEq, Int.reduceBNe, Int.reduceToNat, Int.reduceNeg, Int.reduceSub, Int.reduceAdd]
    refine callH (looks_c hD5 (cutD_bound k hk) (by rw [cutD_open k hk]; decide)) ?_
    rintro r H6 n6 ⟨l, hl, hn6, hD6, k6, hr⟩
    have hl15 := cutD_looks hk hl
    rcases hr with ⟨_, rfl⟩ | ⟨g6, rfl, hO6⟩
    · cases hl15
    rw [hl15]
    simp only [push_cast, Nat.reduceBEq, Nat.reduceAdd, Nat.reduceEqDiff, reduceCtorEq, Nat.reduceLeDiff, Nat.reduceSub, Nat.reduceMul, Nat.reduceLT, Int.reduceEq, Int.reduceLT, Int.reduceLE, Int.reduceBEq, Int.reduceBNe, Int.reduceToNat, Int.reduceNeg, Int.reduceSub, Int.reduceAdd]
    refine callH (begin_c hD6 99 (by decide) (by rw [cutD_open k hk]; decide)) ?_
    rintro _ H7 n7 ⟨rfl, S7, hD7, hn7, k7⟩
    simp only [push_cast, Nat.reduceBEq, Nat.reduceAdd, Nat.reduceEqDiff, reduceCtorEq, Nat.reduceLeDiff, Nat.reduceSub, Nat.reduceMul, Nat.reduceLT, Int.reduceEq, Int.reduceLT, Int.reduceLE, Int.reduceBEq, Int.reduceBNe, Int.reduceToNat, Int.reduceNeg, Int.reduceSub, Int.reduceAdd]
    have hlen16 : (cutD k).txns.length = 16 := by
      show (((List.range 16).map mkT).set k _).length = 16
      rw [List.length_set, List.length_map, List.length_range]
    have pIx : (Ps ++ [(n6 + 1, n6)])[16]? = some (n6 + 1, n6) := by rw [List.getElem?_append_right (by omega), hPl, Nat.sub_self]; rfl
    refine loopK (fun q s => ∃ (j : Nat) (H8 : Hp) (n8 : Nat) (S8 : Nat → Prop) (D : SysD) (t : TxnD), s = ⟨[(3, .ptr b 0), (10, .lit (.int .i64 (k : Int))), (11, .ptr (n6 + 1) 0), (12, .lit (.int .i64 (j : Int)))], H8, n8⟩ ∧ j ≤ 200 ∧ q = 200 - j ∧ Sys H8 n8 S8 b (Ps ++ [(n6 + 1, n6)]) D ∧ D.notes = ([], 0) ∧ D.txns[16]? = some t ∧ Puts j t) _ [3, 10, 11, 12]
      ⟨0, _, _, _, _, ⟨99, false, [], 0⟩, rfl, Nat.zero_le _, rfl, hD7, rfl, (by
        show ((cutD k).txns ++ [_])[16]? = _
        rw [List.getElem?_append_right (by omega), hlen16]; rfl), Puts.zero⟩ ?_
    rintro q _ ⟨j, H8, n8, S8, D, t, rfl, hj, rfl, hD8, hDn, ht, hp⟩
    by_cases hj2 : j < 200
    · have hj2' : (j : Int) < 200 := by omega
      have hw8 := u8_wrap (j := j) (by omega)
      have hst := strOf_one (j := j) (by omega)
      have hka := keyK_app j
      have hs1 : (⟨#[107]⟩ : ByteArray).size = 1 := rfl
      have hs2 : (⟨#[UInt8.ofNat j]⟩ : ByteArray).size = 1 := rfl
      obtain ⟨n1, n2⟩ := hp.next hj2 ⟨#[120]⟩ (by decide) 1
      simp only [push_cast, Nat.reduceBEq, Nat.reduceAdd, Nat.reduceEqDiff, reduceCtorEq, Nat.reduceLeDiff, Nat.reduceSub, Nat.reduceMul, Nat.reduceLT, Int.reduceEq, Int.reduceLT, Int.reduceLE, Int.reduceBEq, Int.reduceBNe, Int.reduceToNat, Int.reduceNeg, Int.reduceSub, Int.reduceAdd, hj2', hw8, bytesOf_one, hst, hka, hs1, hs2, show ¬ 9223372036854775807 < 1 + 1 by decide]
      have hD8' := hD8.new (o := some (.row false 5 [[AV.lit (.int .u8 (j : Int))]])) (Nat.le_refl _) (Nat.le_succ _)
      refine callH (put_c hD8' pIx ht (keyK j) ⟨#[120]⟩) ?_
      rintro _ H9 n9 ⟨rfl, S9, hD9, hn9, k9⟩
      rw [n1]
      simp only [push_cast, Nat.reduceBEq, Nat.reduceAdd, Nat.reduceEqDiff, reduceCtorEq, Nat.reduceLeDiff, Nat.reduceSub, Nat.reduceMul, Nat.reduceLT, Int.reduceEq, Int.reduceLT, Int.reduceLE, Int.reduceBEq, Int.reduceBNe, Int.reduceToNat, Int.reduceNeg, Int.reduceSub, Int.reduceAdd, wrap_nat0 (k := j) (by omega)]
      exact ⟨_, by omega, j + 1, _, _, _, _, chTxn t ⟨1, keyK j, ⟨#[120]⟩⟩, rfl, by omega, rfl, hD9, hDn, List.getElem?_set_self (lt_of_some ht), n2⟩
    · obtain rfl : j = 200 := by omega
      simp only [push_cast, Nat.reduceBEq, Nat.reduceAdd, Nat.reduceEqDiff, reduceCtorEq, Nat.reduceLeDiff, Nat.reduceSub, Nat.reduceMul, Nat.reduceLT, Int.reduceEq, Int.reduceLT, Int.reduceLE, Int.reduceBEq, Int.reduceBNe, Int.reduceToNat, Int.reduceNeg, Int.reduceSub, Int.reduceAdd]
      obtain ⟨f1, f2⟩ := hp.full (o := ⟨1, ⟨#[111, 116, 104, 101, 114]⟩, ⟨#[120]⟩⟩) rfl (by decide)
      refine callH (put_c hD8 pIx ht ⟨#[111, 116, 104, 101, 114]⟩ ⟨#[120]⟩) ?_
      rintro _ H9 n9 ⟨rfl, S9, hD9, hn9, k9⟩
      have e9 : ∀ (o : OpD), chTxn t o = t → D.put 16 t o = D := fun o ho => by
        unfold SysD.put
        rw [ho, set_self ht]
      rw [e9 _ f2] at hD9
      rw [f1]
      simp only [push_cast, Nat.reduceBEq, Nat.reduceAdd, Nat.reduceEqDiff, reduceCtorEq, Nat.reduceLeDiff, Nat.reduceSub, Nat.reduceMul, Nat.reduceLT, Int.reduceEq, Int.reduceLT, Int.reduceLE, Int.reduceBEq, Int.reduceBNe, Int.reduceToNat, Int.reduceNeg, Int.reduceSub, Int.reduceAdd]
      obtain ⟨f3, f4⟩ := hp.full (o := ⟨0, ⟨#[111, 116, 104, 101, 114]⟩, ⟨#[]⟩⟩) rfl (by decide)
      refine callH (del_c hD9 pIx ht ⟨#[111, 116, 104, 101, 114]⟩) ?_
      rintro _ H10 n10 ⟨rfl, S10, hD10, hn10, k10⟩
      rw [e9 _ f4] at hD10
      rw [f3]
      have hw8 := u8_wrap (j := k) (by omega)
      have hst := strOf_one (j := k) (by omega)
      have hka := keyK_app k
      have hs1 : (⟨#[107]⟩ : ByteArray).size = 1 := rfl
      have hs2 : (⟨#[UInt8.ofNat k]⟩ : ByteArray).size = 1 := rfl
      obtain ⟨p1, p2, p3, p4⟩ := hp.again (k := k) (by omega) ⟨#[]⟩ (by decide) 0
      simp only [push_cast, Nat.reduceBEq, Nat.reduceAdd, Nat.reduceEqDiff, reduceCtorEq, Nat.reduceLeDiff, Nat.reduceSub, Nat.reduceMul, Nat.reduceLT, Int.reduceEq, Int.reduceLT, Int.reduceLE, Int.reduceBEq, Int.reduceBNe, Int.reduceToNat, Int.reduceNeg, Int.reduceSub, Int.reduceAdd, hw8, bytesOf_one, hst, hka, hs1, hs2, show ¬ 9223372036854775807 < 1 + 1 by decide]
      have hD10' := hD10.new (o := some (.row false 5 [[AV.lit (.int .u8 (k : Int))]])) (Nat.le_refl _) (Nat.le_succ _)
      refine callH (del_c hD10' pIx ht (keyK k)) ?_
      rintro _ H11 n11 ⟨rfl, S11, hD11, hn11, k11⟩
      rw [p1]
      obtain ⟨u, hu⟩ : ∃ u, chTxn t ⟨0, keyK k, ⟨#[]⟩⟩ = u := ⟨_, rfl⟩
      have ht11 : (D.put 16 t ⟨0, keyK k, ⟨#[]⟩⟩).txns[16]? = some u := by
        rw [← hu]; exact List.getElem?_set_self (lt_of_some ht)
      have hn11' : (D.put 16 t ⟨0, keyK k, ⟨#[]⟩⟩).notes = ([], 0) := hDn
      rw [hu] at p2 p3 p4
      obtain ⟨E, hE⟩ : ∃ E, D.put 16 t ⟨0, keyK k, ⟨#[]⟩⟩ = E := ⟨_, rfl⟩
      rw [hE] at hD11 ht11 hn11'
      simp only [push_cast, Nat.reduceBEq, Nat.reduceAdd, Nat.reduceEqDiff, reduceCtorEq, Nat.reduceLeDiff, Nat.reduceSub, Nat.reduceMul, Nat.reduceLT, Int.reduceEq, Int.reduceLT, Int.reduceLE, Int.reduceBEq, Int.reduceBNe, Int.reduceToNat, Int.reduceNeg, Int.reduceSub, Int.reduceAdd]
      refine callH (ops_c hD11 pIx ht11) ?_
      rintro _ H12 n12 ⟨g12, rfl, hn12, hD12, hO12, _, k12⟩
      have hl200 : (opsOf u).length = 200 := by unfold opsOf; rw [p3]; simp only [Bool.false_eq_true, if_false]; rw [opsL_len, p4]
      rw [hl200]
      simp only [push_cast, Nat.reduceBEq, Nat.reduceAdd, Nat.reduceEqDiff, reduceCtorEq, Nat.reduceLeDiff, Nat.reduceSub, Nat.reduceMul, Nat.reduceLT, Int.reduceEq, Int.reduceLT, Int.reduceLE, Int.reduceBEq, Int.reduceBNe, Int.reduceToNat, Int.reduceNeg, Int.reduceSub, Int.reduceAdd]
      refine callH (commit_c hD12 pIx ht11 72057594037927935 (by decide)) ?_
      rintro _ H13 n13 ⟨rfl, S13, hD13, hn13, k13⟩
      have c1 := comErr_big (D := E) p2 p3 p4
      have c2 : E.com 16 u 72057594037927935 = E := by unfold SysD.com; rw [c1, if_neg (by decide), if_neg (by decide)]
      rw [c2] at hD13
      rw [c1]
      simp only [push_cast, Nat.reduceBEq, Nat.reduceAdd, Nat.reduceEqDiff, reduceCtorEq, Nat.reduceLeDiff, Nat.reduceSub, Nat.reduceMul, Nat.reduceLT, Int.reduceEq, Int.reduceLT, Int.reduceLE, Int.reduceBEq, Int.reduceBNe, Int.reduceToNat, Int.reduceNeg, Int.reduceSub, Int.reduceAdd]
      refine callH (commit_c hD13 pIx ht11 72057594037927736 (by decide)) ?_
      rintro _ H14 n14 ⟨rfl, _⟩
      rw [comErr_fits hn11' p2 p3 p4]
      simp only [push_cast, Nat.reduceBEq, Nat.reduceAdd, Nat.reduceEqDiff, reduceCtorEq, Nat.reduceLeDiff, Nat.reduceSub, Nat.reduceMul, Nat.reduceLT, Int.reduceEq, Int.reduceLT, Int.reduceLE, Int.reduceBEq, Int.reduceBNe, Int.reduceToNat, Int.reduceNeg, Int.reduceSub, Int.reduceAdd]
end Go.Proofs.Ytnaiaacgcjikiaa
