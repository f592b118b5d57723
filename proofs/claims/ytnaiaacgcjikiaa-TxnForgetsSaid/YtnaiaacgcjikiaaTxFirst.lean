/- Chapter 21's statement TxnFirst, by the walk over a heap. -/
import Derived.Test.YtnaiaacgcjikiaaTxFirstP
set_option linter.unusedVariables false
set_option linter.unusedSimpArgs false
namespace Go.Proofs.Ytnaiaacgcjikiaa
open Go Go.RowKit Hv
set_option maxRecDepth 20000
set_option maxHeartbeats 8000000
/-- A number, wrapped, modulo a small one. -/
theorem u64_mod (z : Int) {K : Nat} (hK : 0 < K) (hK' : K ≤ 1000000) : ∃ m : Nat, m < K ∧ (IntKind.u64.wrap z).tmod (K : Int) = (m : Int) ∧ IntKind.i64.wrap (m : Int) = (m : Int) := by
  have h0 : IntKind.u64.wrap z = z % 18446744073709551616 := by simp [IntKind.wrap, IntKind.bits, IntKind.signed]
  obtain ⟨u, hu⟩ : ∃ u : Nat, IntKind.u64.wrap z = (u : Int) := ⟨(z % 18446744073709551616).toNat, by rw [h0]; omega⟩
  have hm : u % K < K := Nat.mod_lt _ hK
  exact ⟨u % K, hm, by rw [hu]; exact (Int.ofNat_tmod _ _).symm, IntWalk.i64_in _ (by omega)⟩
def rowI (l : List ByteArray) : List AV := [.sl (l.map strI)]
def ptrI (x : Nat × Nat) : List AV := [.ptr x.1 0]
def nilI : List AV := [.lit (.pointer none)]
def boolI (b : Bool) : List AV := [.lit (.bool b)]
theorem noId_rows (l : List (List ByteArray)) : NoId (.sl (l.map rowI)) := by simp [noId_sl, rowI, strI, noId_lit]
theorem noId_intsI (l : List Int) : NoId (.sl (l.map intI)) := by simp [noId_sl, intI, noId_lit]
theorem set_next {α : Type} {l m : List α} {a b : α} {k : Nat} (hk : l.length = k) : (l ++ a :: m).set k b = l ++ b :: m := by
  rw [← hk, List.set_append_right _ _ (Nat.le_refl _), Nat.sub_self]; rfl
theorem min_12 (n : Nat) : (if (12 : Int) < (n : Int) then (12 : Int) else (n : Int)) = ((min n 12 : Nat) : Int) := by
  split <;> omega
theorem TxnFirst_h (keys : List (List ByteArray)) (order : List Int) : Hv.ACalls Try.prog 3 [.sl (keys.map rowI), .sl (order.map intI)] (.lit (.bool true)) := by
  refine acallsC_of (rs := [.tmp 4]) ⟨[0, 1, 4, 5, 6, 7, 8, 9, 10, 11, 12, 13, 14, 15, 16, 17, 18, 19, 20, 21, 22, 24, 33, 42, 57, 78, 83, 90, 103, 115, 121, 145, 182, 184], [30, 80], [], [(38, [(0, [], []), (1, [], []), (2, [], []), (3, [], []), (4, [], []), (5, [], []), (6, [], []), (7, [], []), (8, [], []), (9, [], []), (10, [], []), (11, [], []), (12, [], []), (13, [], []), (14, [], [13, 1, 0, 2, 3, 4, 5, 6, 7, 8, 9, 10, 11, 12])])]⟩ TOk mixed Try.func3 rfl rfl (by kernel_rfl) (by kernel_rfl) rfl (List.forall_mem_cons.2 ⟨noId_rows _, List.forall_mem_cons.2 ⟨noId_intsI _, fun x h => absurd h List.not_mem_nil⟩⟩) (.lit _) ?_
  simp only [push_cast, Nat.reduceBEq, Nat.reduceAdd, Nat.reduceEqDiff, reduceCtorEq, Nat.reduceLeDiff, Nat.reduceSub, Nat.reduceMul, Nat.reduceLT, Int.reduceEq, Int.reduceLT, Int.reduceLE, Int.reduceBEq, Int.reduceBNe, Int.reduceToNat, Int.reduceNeg, Int.reduceSub, Int.reduceAdd]
  refine callH races_h ?_
  rintro _ H0 n0 ⟨rfl, hn0, _⟩
  simp only [push_cast, Nat.reduceBEq, Nat.reduceAdd, Nat.reduceEqDiff, reduceCtorEq, Nat.reduceLeDiff, Nat.reduceSub, Nat.reduceMul, Nat.reduceLT, Int.reduceEq, Int.reduceLT, Int.reduceLE, Int.reduceBEq, Int.reduceBNe, Int.reduceToNat, Int.reduceNeg, Int.reduceSub, Int.reduceAdd]
  refine callH new_c ?_
  rintro _ H1 _ ⟨rfl, rfl, h1, _⟩
  dsimp only at h1
  obtain ⟨n, hn⟩ : ∃ n, min keys.length 12 = n := ⟨_, rfl⟩
  have hmin := min_12 keys.length
  rw [hn] at hmin
  have hn12 : n ≤ 12 := by omega
  have hnk : n ≤ keys.length := by omega
  have q8 : 8 * (n : Int) ≤ 140737488355328 := by omega
  simp only [push_cast, Nat.reduceBEq, Nat.reduceAdd, Nat.reduceEqDiff, reduceCtorEq, Nat.reduceLeDiff, Nat.reduceSub, Nat.reduceMul, Nat.reduceLT, Int.reduceEq, Int.reduceLT, Int.reduceLE, Int.reduceBEq, Int.reduceBNe, Int.reduceToNat, Int.reduceNeg, Int.reduceSub, Int.reduceAdd, hmin, q8]
  have hz : ([AV.lit (.pointer none)] : List AV) = nilI := rfl
  have hnl : nilI.length = 1 := rfl
  have hnd : nilI.drop 1 = [] := rfl
  simp only [hz]
  obtain ⟨b, hb⟩ : ∃ b, n0 + 3 = b := ⟨_, rfl⟩
  obtain ⟨g, hg⟩ : ∃ g, n0 + 4 = g := ⟨_, rfl⟩
  rw [hb] at h1
  simp only [hb, hg]
  rw [hg] at h1
  have hO1 : Own (upd H1 g (some (.row true 28 (List.replicate n nilI)))) (g + 1) (fun j => n0 ≤ j ∧ j < g) g (.row true 28 (List.replicate n nilI)) := ⟨upd_same _ _ _, Nat.lt_succ_self _, fun hh => by have := hh.2; omega⟩
  have h1' := h1.new (o := some (.row true 28 (List.replicate n nilI))) (Nat.le_refl g) (Nat.le_succ g)
  refine loopK (fun q s => ∃ (i : Nat) (H4 : Hp) (nn : Nat) (S : Nat → Prop) (Ps : List (Nat × Nat)) (D : SysD), s = ⟨[(0, .sl (keys.map rowI)), (1, .sl (order.map intI)), (5, .ptr b 0), (6, .lit (.int .i64 (n : Int))), (7, .rw g 1 0 n), (8, .lit (.int .i64 (i : Int)))], H4, nn⟩ ∧ i ≤ n ∧ q = n - i ∧ Sys H4 nn S b Ps D ∧ D.txns.length = i ∧ D.notes = ([], 0) ∧ (∀ t ∈ D.txns, t.start = 7 ∧ t.over = false) ∧ Own H4 nn S g (.row true 28 (Ps.map ptrI ++ List.replicate (n - i) nilI))) _ [0, 1, 5, 6, 7, 8]
    ⟨0, _, _, _, [], _, rfl, Nat.zero_le _, rfl, h1', rfl, rfl, fun t ht => absurd ht List.not_mem_nil, (by rw [List.map_nil, List.nil_append, Nat.sub_zero]; exact hO1)⟩ ?_
  rintro q _ ⟨i, H4, nn, S, Ps, D, rfl, hi, rfl, hD, hDl, hDn, hDt, hO⟩
  by_cases hin : i < n
  · have hin' : (i : Int) < (n : Int) := by omega
    have hop : openN D < 16 := by rw [openN_all fun t ht => (hDt t ht).2, hDl]; omega
    simp only [push_cast, Nat.reduceBEq, Nat.reduceAdd, Nat.reduceEqDiff, reduceCtorEq, Nat.reduceLeDiff, Nat.reduceSub, Nat.reduceMul, Nat.reduceLT, Int.reduceEq, Int.reduceLT, Int.reduceLE, Int.reduceBEq, Int.reduceBNe, Int.reduceToNat, Int.reduceNeg, Int.reduceSub, Int.reduceAdd, hin']
    refine callH (begin_c hD 7 (by decide) hop) ?_
    rintro _ H5 n5 ⟨rfl, S5, hD5, hn5, k5⟩
    have hO5 := hO.keep hn5 k5
    have hG5 := hO5.at
    have hPl : Ps.length = i := by rw [hD.len, hDl]
    have hrep : List.replicate (n - i) nilI = nilI :: List.replicate (n - (i + 1)) nilI := by
      rw [show n - i = (n - (i + 1)) + 1 by omega, List.replicate_succ]
    have hat : (Ps.map ptrI ++ List.replicate (n - i) nilI)[i]? = some nilI := by
      rw [hrep, List.getElem?_append_right (by rw [List.length_map, hPl]; exact Nat.le_refl _), List.length_map, hPl, Nat.sub_self]; rfl
    have hst : (Ps.map ptrI ++ List.replicate (n - i) nilI).set i [.ptr (nn + 1) 0] = (Ps ++ [(nn + 1, nn)]).map ptrI ++ List.replicate (n - (i + 1)) nilI := by
      rw [hrep, set_next (by rw [List.length_map, hPl]), List.map_append, List.append_assoc]; rfl
    simp only [push_cast, Nat.reduceBEq, Nat.reduceAdd, Nat.reduceEqDiff, reduceCtorEq, Nat.reduceLeDiff, Nat.reduceSub, Nat.reduceMul, Nat.reduceLT, Int.reduceEq, Int.reduceLT, Int.reduceLE, Int.reduceBEq, Int.reduceBNe, Int.reduceToNat, Int.reduceNeg, Int.reduceSub, Int.reduceAdd, hG5, hat, hnl, hnd, List.append_nil, hst, hin']
    have hDg : D.begun 7 = ⟨([], 0), D.txns ++ [⟨7, false, [], 0⟩]⟩ := by unfold SysD.begun; rw [hDn]
    rw [hDg] at hD5
    have hO5' : Own (upd H5 g (some (.row true 28 ((Ps ++ [(nn + 1, nn)]).map ptrI ++ List.replicate (n - (i + 1)) nilI)))) n5 S5 g (.row true 28 ((Ps ++ [(nn + 1, nn)]).map ptrI ++ List.replicate (n - (i + 1)) nilI)) := hO5.put
    have hD5' := hD5.u (o := some (.row true 28 ((Ps ++ [(nn + 1, nn)]).map ptrI ++ List.replicate (n - (i + 1)) nilI))) hO5.2.2
    obtain ⟨ks, hks⟩ : ∃ ks, keys[i]? = some ks := ⟨_, List.getElem?_eq_getElem (by omega)⟩
    have hik : (i : Int) < (keys.length : Int) := by omega
    refine loopK (fun q s => ∃ (k : Nat) (H6 : Hp) (n6 : Nat) (S6 : Nat → Prop) (t : TxnD), s = ⟨[(0, .sl (keys.map rowI)), (1, .sl (order.map intI)), (5, .ptr b 0), (6, .lit (.int .i64 (n : Int))), (7, .rw g 1 0 n), (8, .lit (.int .i64 (i : Int))), (9, .ptr (nn + 1) 0), (11, .lit (.int .i64 (k : Int)))], H6, n6⟩ ∧ k ≤ 9 ∧ q = 9 - k ∧ Sys H6 n6 S6 b (Ps ++ [(nn + 1, nn)]) ⟨([], 0), D.txns ++ [t]⟩ ∧ t.start = 7 ∧ t.over = false ∧ Own H6 n6 S6 g (.row true 28 ((Ps ++ [(nn + 1, nn)]).map ptrI ++ List.replicate (n - (i + 1)) nilI))) _ [0, 1, 5, 6, 7, 8, 9, 11]
      ⟨0, _, _, _, _, rfl, Nat.zero_le _, rfl, hD5', rfl, rfl, hO5'⟩ ?_
    rintro q _ ⟨k, H6, n6, S6, t, rfl, hk, rfl, hD6, ht1, ht2, hO6⟩
    have pIx : (Ps ++ [(nn + 1, nn)])[i]? = some (nn + 1, nn) := by rw [List.getElem?_append_right (by omega), hPl, Nat.sub_self]; rfl
    have tIx : (D.txns ++ [t])[i]? = some t := by rw [List.getElem?_append_right (by omega), hDl, Nat.sub_self]; rfl
    by_cases hkl : k < ks.length
    · have hkl' : (k : Int) < (ks.length : Int) := by omega
      by_cases hk9 : k < 9
      · have hk9' : (k : Int) < 9 := by omega
        obtain ⟨kk, hkk⟩ : ∃ kk, ks[k]? = some kk := ⟨_, List.getElem?_eq_getElem hkl⟩
        simp only [push_cast, Nat.reduceBEq, Nat.reduceAdd, Nat.reduceEqDiff, reduceCtorEq, Nat.reduceLeDiff, Nat.reduceSub, Nat.reduceMul, Nat.reduceLT, Int.reduceEq, Int.reduceLT, Int.reduceLE, Int.reduceBEq, Int.reduceBNe, Int.reduceToNat, Int.reduceNeg, Int.reduceSub, Int.reduceAdd, hks, hik, rowI, hkl', hk9', hkk, strI]
        refine callH (put_c hD6 pIx tIx kk ⟨#[118]⟩) ?_
        rintro _ H7 n7 ⟨rfl, S7, hD7, hn7, k7⟩
        have hO7 := hO6.keep hn7 k7
        have hw := wrap_nat0 (k := k) (by omega)
        have hset : (D.txns ++ [t]).set i (chTxn t ⟨1, kk, ⟨#[118]⟩⟩) = D.txns ++ [chTxn t ⟨1, kk, ⟨#[118]⟩⟩] := set_next hDl
        have hD7' : Sys H7 n7 S7 b (Ps ++ [(nn + 1, nn)]) ⟨([], 0), D.txns ++ [chTxn t ⟨1, kk, ⟨#[118]⟩⟩]⟩ := by rw [← hset]; exact hD7
        have fin : ∃ m, m < 9 - k ∧ ∃ (k' : Nat) (H6 : Hp) (n6 : Nat) (S6 : Nat → Prop) (t : TxnD), (⟨[(0, .sl (keys.map rowI)), (1, .sl (order.map intI)), (5, .ptr b 0), (6, .lit (.int .i64 (n : Int))), (7, .rw g 1 0 n), (8, .lit (.int .i64 (i : Int))), (9, .ptr (nn + 1) 0), (11, .lit (.int .i64 ((k : Int) + 1)))], H7, n7⟩ : AS) = ⟨[(0, .sl (keys.map rowI)), (1, .sl (order.map intI)), (5, .ptr b 0), (6, .lit (.int .i64 (n : Int))), (7, .rw g 1 0 n), (8, .lit (.int .i64 (i : Int))), (9, .ptr (nn + 1) 0), (11, .lit (.int .i64 (k' : Int)))], H6, n6⟩ ∧ k' ≤ 9 ∧ m = 9 - k' ∧ Sys H6 n6 S6 b (Ps ++ [(nn + 1, nn)]) ⟨([], 0), D.txns ++ [t]⟩ ∧ t.start = 7 ∧ t.over = false ∧ Own H6 n6 S6 g (.row true 28 ((Ps ++ [(nn + 1, nn)]).map ptrI ++ List.replicate (n - (i + 1)) nilI)) :=
          ⟨_, by omega, k + 1, _, _, _, _, rfl, by omega, rfl, hD7', (chTxn_start _ _).trans ht1, (chTxn_over _ _).trans ht2, hO7⟩
        rcases chErr_of (o := ⟨1, kk, ⟨#[118]⟩⟩) ht2 with he | he | he
        · rw [he]
          simp only [push_cast, Nat.reduceBEq, Nat.reduceAdd, Nat.reduceEqDiff, reduceCtorEq, Nat.reduceLeDiff, Nat.reduceSub, Nat.reduceMul, Nat.reduceLT, Int.reduceEq, Int.reduceLT, Int.reduceLE, Int.reduceBEq, Int.reduceBNe, Int.reduceToNat, Int.reduceNeg, Int.reduceSub, Int.reduceAdd, hw]
          exact fin
        · rw [he]
          simp only [push_cast, Nat.reduceBEq, Nat.reduceAdd, Nat.reduceEqDiff, reduceCtorEq, Nat.reduceLeDiff, Nat.reduceSub, Nat.reduceMul, Nat.reduceLT, Int.reduceEq, Int.reduceLT, Int.reduceLE, Int.reduceBEq, Int.reduceBNe, Int.reduceToNat, Int.reduceNeg, Int.reduceSub, Int.reduceAdd, hw]
          exact fin
        · rw [he]
          simp only [push_cast, Nat.reduceBEq, Nat.reduceAdd, Nat.reduceEqDiff, reduceCtorEq, Nat.reduceLeDiff, Nat.reduceSub, Nat.reduceMul, Nat.reduceLT, Int.reduceEq, Int.reduceLT, Int.reduceLE, Int.reduceBEq, Int.reduceBNe, Int.reduceToNat, Int.reduceNeg, Int.reduceSub, Int.reduceAdd, hw]
          exact fin
      · simp only [push_cast, Nat.reduceBEq, Nat.reduceAdd, Nat.reduceEqDiff, reduceCtorEq, Nat.reduceLeDiff, Nat.reduceSub, Nat.reduceMul, Nat.reduceLT, Int.reduceEq, Int.reduceLT, Int.reduceLE, Int.reduceBEq, Int.reduceBNe, Int.reduceToNat, Int.reduceNeg, Int.reduceSub, Int.reduceAdd, hks, hik, rowI, hkl', show ¬ (k : Int) < 9 by omega, wrap_nat0 (k := i) (by omega)]
        exact ⟨_, by omega, i + 1, _, _, _, _, _, rfl, by omega, rfl, hD6, by rw [List.length_append, hDl]; rfl, rfl, fun u hu => by
          rcases List.mem_append.1 hu with hu | hu
          · exact hDt u hu
          · rw [List.mem_singleton.1 hu]; exact ⟨ht1, ht2⟩, hO6⟩
    · simp only [push_cast, Nat.reduceBEq, Nat.reduceAdd, Nat.reduceEqDiff, reduceCtorEq, Nat.reduceLeDiff, Nat.reduceSub, Nat.reduceMul, Nat.reduceLT, Int.reduceEq, Int.reduceLT, Int.reduceLE, Int.reduceBEq, Int.reduceBNe, Int.reduceToNat, Int.reduceNeg, Int.reduceSub, Int.reduceAdd, hks, hik, rowI, show ¬ (k : Int) < (ks.length : Int) by omega, wrap_nat0 (k := i) (by omega)]
      exact ⟨_, by omega, i + 1, _, _, _, _, _, rfl, by omega, rfl, hD6, by rw [List.length_append, hDl]; rfl, rfl, fun u hu => by
        rcases List.mem_append.1 hu with hu | hu
        · exact hDt u hu
        · rw [List.mem_singleton.1 hu]; exact ⟨ht1, ht2⟩, hO6⟩
  · obtain rfl : i = n := by omega
    have q1 : 1 * (i : Int) ≤ 140737488355328 := by omega
    simp only [push_cast, Nat.reduceBEq, Nat.reduceAdd, Nat.reduceEqDiff, reduceCtorEq, Nat.reduceLeDiff, Nat.reduceSub, Nat.reduceMul, Nat.reduceLT, Int.reduceEq, Int.reduceLT, Int.reduceLE, Int.reduceBEq, Int.reduceBNe, Int.reduceToNat, Int.reduceNeg, Int.reduceSub, Int.reduceAdd, hin, q1, show (i : Int) ≤ 140737488355328 by omega]
    have hPl : Ps.length = i := by rw [hD.len, hDl]
    rw [Nat.sub_self, List.replicate_zero, List.append_nil] at hO
    have hzb : ([AV.lit (.bool false)] : List AV) = boolI false := rfl
    simp only [hzb]
    have hO2 := (hO.new (o' := some (.row false 39 [])) (Nat.le_refl nn) (Nat.le_succ nn)).new (o' := some (.row true 4 (List.replicate i (boolI false)))) (Nat.le_refl (nn + 1)) (Nat.le_succ (nn + 1))
    have hD2 := (hD.new (o := some (.row false 39 [])) (Nat.le_refl nn) (Nat.le_succ nn)).new (o := some (.row true 4 (List.replicate i (boolI false)))) (Nat.le_refl (nn + 1)) (Nat.le_succ (nn + 1))
    have hW2 : Own (upd (upd H4 nn (some (.row false 39 []))) (nn + 1) (some (.row true 4 (List.replicate i (boolI false))))) (nn + 1 + 1) S nn (.row false 39 (([] : List OpD).map opI)) := ⟨(upd_other (by omega)).trans (upd_same _ _ _), by omega, hD.nu (Nat.le_refl _)⟩
    have hB2 : Own (upd (upd H4 nn (some (.row false 39 []))) (nn + 1) (some (.row true 4 (List.replicate i (boolI false))))) (nn + 1 + 1) S (nn + 1) (.row true 4 ((List.replicate i false).map boolI)) := ⟨by rw [List.map_replicate]; exact upd_same _ _ _, by omega, hD.nu (by omega)⟩
    obtain ⟨gd, hgd⟩ : ∃ gd, nn + 1 = gd := ⟨_, rfl⟩
    have hgg : g ≠ gd := fun e => by have := hO.2.1; omega
    have hng : nn ≠ gd := by omega
    have hgn : g ≠ nn := fun e => by have := hO.2.1; omega
    rw [hgd] at hB2 hW2 hO2 hD2
    simp only [hgd]
    refine loopK (fun q s => ∃ (k : Nat) (seq : Int) (gw : Nat) (H6 : Hp) (n6 : Nat) (S6 : Nat → Prop) (E : SysD) (won : List OpD) (done : List Bool), s = ⟨[(1, .sl (order.map intI)), (5, .ptr b 0), (6, .lit (.int .i64 (i : Int))), (7, .rw g 1 0 i), (13, .rw gw 3 0 won.length), (14, .lit (.int .i64 seq)), (15, .rw gd 1 0 i), (16, .lit (.int .i64 (k : Int)))], H6, n6⟩ ∧ k ≤ i ∧ q = i - k ∧ Sys H6 n6 S6 b Ps E ∧ E.txns.length = i ∧ done.length = i ∧ Told E.notes won ∧ (∀ (j : Nat) (t : TxnD), E.txns[j]? = some t → t.start = 7 ∧ done[j]? = some t.over) ∧
        8 ≤ seq ∧ seq ≤ 8 + 201 * k ∧ won.length ≤ 200 * k ∧ Own H6 n6 S6 g (.row true 28 (Ps.map ptrI)) ∧ Own H6 n6 S6 gw (.row false 39 (won.map opI)) ∧ Own H6 n6 S6 gd (.row true 4 (done.map boolI)) ∧ gw ≠ gd ∧ gw ≠ g) _ [1, 5, 6, 7, 13, 14, 15, 16]
      ⟨0, 8, nn, _, _, S, D, [], List.replicate i false, rfl, Nat.zero_le _, rfl, hD2, hDl, List.length_replicate, by rw [hDn]; exact told_nil, fun j t ht => ⟨(hDt t (List.mem_of_getElem? ht)).1, by rw [(hDt t (List.mem_of_getElem? ht)).2, List.getElem?_replicate, if_pos (by have := lt_of_some ht; omega)]⟩, by omega, by omega, by exact Nat.zero_le _, hO2, hW2, hB2, hng, fun e => hgn e.symm⟩ ?_
    rintro q _ ⟨k, seq, gw, H6, n6, S6, E, won, done, rfl, hk, rfl, hE, hEl, hdl, hT, hall, hs1, hs2, hwl, hO6, hW6, hB6, hne1, hne2⟩
    by_cases hkl : k < i
    · have hkl' : (k : Int) < (i : Int) := by omega
      have hui : IntKind.u64.wrap (i : Int) = (i : Int) := by simp [IntKind.wrap, IntKind.bits, IntKind.signed]; omega
      have hi0 : ¬ (i : Int) = 0 := by omega
      have hum : ∀ z : Int, ∃ m : Nat, m < i ∧ (IntKind.u64.wrap z).tmod (i : Int) = (m : Int) ∧ IntKind.i64.wrap (m : Int) = (m : Int) := fun z => u64_mod z (by omega) (by omega)
      have hwk := wrap_nat0 (k := k) (by omega)
      have hPE : Ps.length = i := by rw [hE.len, hEl]
      refine' meetG (fun meet => _) _
      rotate_left
      · rcases Nat.lt_or_ge k order.length with hol | hol
        · obtain ⟨z, hz⟩ : ∃ z, order[k]? = some z := ⟨_, List.getElem?_eq_getElem hol⟩
          obtain ⟨m, hm, hmod, hwm⟩ := hum z
          simp only [push_cast, Nat.reduceBEq, Nat.reduceAdd, Nat.reduceEqDiff, reduceCtorEq, Nat.reduceLeDiff, Nat.reduceSub, Nat.reduceMul, Nat.reduceLT, Int.reduceEq, Int.reduceLT, Int.reduceLE, Int.reduceBEq, Int.reduceBNe, Int.reduceToNat, Int.reduceNeg, Int.reduceSub, Int.reduceAdd, hkl', hol, hz, intI, hmod, hwm, hui, hi0, hm]
          obtain ⟨v90, hp⟩ : ∃ v, ((90, AV.lit (.bool true)) : Nat × AV) = (90, v) := ⟨_, rfl⟩
          rw [hp]
          clear hp hwm hmod
          revert v90
          revert hm
          revert m
          exact meet
        · have hol' : ¬ k < order.length := Nat.not_lt.2 hol
          simp only [push_cast, Nat.reduceBEq, Nat.reduceAdd, Nat.reduceEqDiff, reduceCtorEq, Nat.reduceLeDiff, Nat.reduceSub, Nat.reduceMul, Nat.reduceLT, Int.reduceEq, Int.reduceLT, Int.reduceLE, Int.reduceBEq, Int.reduceBNe, Int.reduceToNat, Int.reduceNeg, Int.reduceSub, Int.reduceAdd, hkl', hol', hkl]
          exact meet k hkl (.lit (.bool false))
      · intro kk hkk v90
        have hkk' : (kk : Int) < (i : Int) := by omega
        obtain ⟨dk, hdk⟩ : ∃ dk, done[kk]? = some dk := ⟨_, List.getElem?_eq_getElem (by omega)⟩
        obtain ⟨t, ht⟩ : ∃ t, E.txns[kk]? = some t := ⟨_, List.getElem?_eq_getElem (by omega)⟩
        obtain ⟨x, hx⟩ : ∃ x, Ps[kk]? = some x := ⟨_, List.getElem?_eq_getElem (by omega)⟩
        obtain ⟨hts, hto⟩ := hall kk t ht
        rw [hdk] at hto
        injection hto with hto
        have hB := hB6.at
        have hG := hO6.at
        have hW := hW6.at
        have hble : Nat.ble i i = true := Nat.ble_self_eq_true i
        cases dk with
        | true =>
          simp only [push_cast, Nat.reduceBEq, Nat.reduceAdd, Nat.reduceEqDiff, reduceCtorEq, Nat.reduceLeDiff, Nat.reduceSub, Nat.reduceMul, Nat.reduceLT, Int.reduceEq, Int.reduceLT, Int.reduceLE, Int.reduceBEq, Int.reduceBNe, Int.reduceToNat, Int.reduceNeg, Int.reduceSub, Int.reduceAdd, hB, hdk, hkk, hkk', boolI, hwk]
          exact ⟨_, by omega, k + 1, seq, gw, _, _, S6, E, won, done, rfl, by omega, rfl, hE, hEl, hdl, hT, hall, by omega, by omega, by omega, hO6, hW6, hB6, hne1, hne2⟩
        | false =>
          simp only [push_cast, Nat.reduceBEq, Nat.reduceAdd, Nat.reduceEqDiff, reduceCtorEq, Nat.reduceLeDiff, Nat.reduceSub, Nat.reduceMul, Nat.reduceLT, Int.reduceEq, Int.reduceLT, Int.reduceLE, Int.reduceBEq, Int.reduceBNe, Int.reduceToNat, Int.reduceNeg, Int.reduceSub, Int.reduceAdd, hB, hG, hdk, hkk, hkk', boolI, hx, ptrI, nb hgg, nb hgg.symm]
          have htlt : t.over = false := hto.symm
          obtain ⟨x', hx', hTx, _, _, _, _⟩ := hE.txn ht
          have hok := hTx.ok
          have hval := hTx.val
          have htl := hTx.len
          have hset : (done.map boolI).set kk [AV.lit (.bool true)] = (done.set kk true).map boolI := by rw [List.map_set]; rfl
          rw [hset]
          have hB7 : Own (upd H6 gd (some (.row true 4 ((done.set kk true).map boolI)))) n6 S6 gd (.row true 4 ((done.set kk true).map boolI)) := hB6.put
          have hE7 := hE.u (o := some (.row true 4 ((done.set kk true).map boolI))) hB6.2.2
          have hO7 := hO6.other (o' := some (.row true 4 ((done.set kk true).map boolI))) hgg.symm
          have hW7 := hW6.other (o' := some (.row true 4 ((done.set kk true).map boolI))) hne1.symm
          refine callH (ops_c hE7 hx ht) ?_
          rintro _ H8 n8 ⟨gm, rfl, hn8, hE8, hM8, hgm, k8⟩
          have hO8 := hO7.same hn8 k8
          have hW8 := hW7.same hn8 k8
          have hB8 := hB7.same hn8 k8
          have hL : opsOf t = opsL t.ops := by unfold opsOf; rw [htlt]; rfl
          rw [hL] at hM8
          obtain ⟨M, hM⟩ : ∃ M, opsL t.ops = M := ⟨_, rfl⟩
          have hMl : M.length ≤ 200 := by rw [← hM, opsL_len]; exact htl
          have hcl := clash_is hT hts htlt hok hval
          rw [hM] at hM8 hcl
          have hMa := hM8.at
          have hWa := hW8.at
          simp only [push_cast, Nat.reduceBEq, Nat.reduceAdd, Nat.reduceEqDiff, reduceCtorEq, Nat.reduceLeDiff, Nat.reduceSub, Nat.reduceMul, Nat.reduceLT, Int.reduceEq, Int.reduceLT, Int.reduceLE, Int.reduceBEq, Int.reduceBNe, Int.reduceToNat, Int.reduceNeg, Int.reduceSub, Int.reduceAdd, hL, hM]
          refine loopK (fun q s => ∃ (a : Nat), s = ⟨[(1, .sl (order.map intI)), (5, .ptr b 0), (6, .lit (.int .i64 (i : Int))), (7, .rw g 1 0 i), (13, .rw gw 3 0 won.length), (14, .lit (.int .i64 seq)), (15, .rw gd 1 0 i), (16, .lit (.int .i64 (k : Int))), (17, .lit (.int .i64 (kk : Int))), (18, .rw gm 3 0 M.length), (19, .lit (.bool ((M.take a).any (clA won)))), (20, .lit (.int .i64 (a : Int)))], H8, n8⟩ ∧ a ≤ M.length ∧ q = M.length - a) _ [1, 5, 6, 7, 13, 14, 15, 16, 17, 18, 19, 20] ⟨0, rfl, Nat.zero_le _, rfl⟩ ?_
          rintro q _ ⟨a, rfl, ha, rfl⟩
          by_cases hal : a < M.length
          · have hal' : (a : Int) < (M.length : Int) := by omega
            obtain ⟨ma, hma⟩ : ∃ ma, M[a]? = some ma := ⟨_, List.getElem?_eq_getElem hal⟩
            have hwa := wrap_nat0 (k := a) (by omega)
            have hbM : Nat.ble M.length (M.map opI).length = true := by rw [Nat.ble_eq, List.length_map]; exact Nat.le_refl _
            have htM : (M.map opI).take M.length = M.map opI := List.take_of_length_le (by rw [List.length_map]; exact Nat.le_refl _)
            have hbW : Nat.ble won.length (won.map opI).length = true := by rw [Nat.ble_eq, List.length_map]; exact Nat.le_refl _
            have htW : (won.map opI).take won.length = won.map opI := List.take_of_length_le (by rw [List.length_map]; exact Nat.le_refl _)
            obtain ⟨B0, hB0⟩ : ∃ B0, (M.take a).any (clA won) = B0 := ⟨_, rfl⟩
            have hnext : (M.take (a + 1)).any (clA won) = (B0 || clA won ma) := by rw [any_next hma, hB0]
            simp only [push_cast, Nat.reduceBEq, Nat.reduceAdd, Nat.reduceEqDiff, reduceCtorEq, Nat.reduceLeDiff, Nat.reduceSub, Nat.reduceMul, Nat.reduceLT, Int.reduceEq, Int.reduceLT, Int.reduceLE, Int.reduceBEq, Int.reduceBNe, Int.reduceToNat, Int.reduceNeg, Int.reduceSub, Int.reduceAdd, hal', hB0]
            refine loopK (fun q s => ∃ (c : Nat), s = ⟨[(1, .sl (order.map intI)), (5, .ptr b 0), (6, .lit (.int .i64 (i : Int))), (7, .rw g 1 0 i), (13, .rw gw 3 0 won.length), (14, .lit (.int .i64 seq)), (15, .rw gd 1 0 i), (16, .lit (.int .i64 (k : Int))), (17, .lit (.int .i64 (kk : Int))), (18, .rw gm 3 0 M.length), (19, .lit (.bool (B0 || (won.take c).any (keyB ma)))), (20, .lit (.int .i64 (a : Int))), (21, .lit (.int .i64 (c : Int)))], H8, n8⟩ ∧ c ≤ won.length ∧ q = won.length - c) _ [1, 5, 6, 7, 13, 14, 15, 16, 17, 18, 19, 20, 21] ⟨0, by rw [List.take_zero, List.any_nil, Bool.or_false]; rfl, Nat.zero_le _, rfl⟩ ?_
            rintro q _ ⟨c, rfl, hc, rfl⟩
            by_cases hcl2 : c < won.length
            · have hcl' : (c : Int) < (won.length : Int) := by omega
              obtain ⟨wc, hwc⟩ : ∃ wc, won[c]? = some wc := ⟨_, List.getElem?_eq_getElem hcl2⟩
              have hwcw := wrap_nat0 (k := c) (by omega)
              have hnx := any_next (p := keyB ma) hwc
              have hke : (ma.key.toList == wc.key.toList) = keyB ma wc := rfl
              cases hB1 : (B0 || (won.take c).any (keyB ma)) with
              | true =>
                simp only [push_cast, Nat.reduceBEq, Nat.reduceAdd, Nat.reduceEqDiff, reduceCtorEq, Nat.reduceLeDiff, Nat.reduceSub, Nat.reduceMul, Nat.reduceLT, Int.reduceEq, Int.reduceLT, Int.reduceLE, Int.reduceBEq, Int.reduceBNe, Int.reduceToNat, Int.reduceNeg, Int.reduceSub, Int.reduceAdd, hcl', hB1, hwcw]
                exact ⟨_, by omega, c + 1, by rw [hnx, ← Bool.or_assoc, hB1]; rfl, by omega, rfl⟩
              | false =>
                simp only [push_cast, Nat.reduceBEq, Nat.reduceAdd, Nat.reduceEqDiff, reduceCtorEq, Nat.reduceLeDiff, Nat.reduceSub, Nat.reduceMul, Nat.reduceLT, Int.reduceEq, Int.reduceLT, Int.reduceLE, Int.reduceBEq, Int.reduceBNe, Int.reduceToNat, Int.reduceNeg, Int.reduceSub, Int.reduceAdd, hcl', hB1, hwcw, hal, hal', hcl2, hMa, hWa, hma, hwc, opI, hbM, htM, hbW, htW, hke]
                exact ⟨_, by omega, c + 1, by rw [hnx, ← Bool.or_assoc, hB1]; rfl, by omega, rfl⟩
            · obtain rfl : c = won.length := by omega
              have hnx2 : (B0 || (won.take won.length).any (keyB ma)) = (M.take (a + 1)).any (clA won) := by rw [hnext, List.take_length]; rfl
              simp only [push_cast, Nat.reduceBEq, Nat.reduceAdd, Nat.reduceEqDiff, reduceCtorEq, Nat.reduceLeDiff, Nat.reduceSub, Nat.reduceMul, Nat.reduceLT, Int.reduceEq, Int.reduceLT, Int.reduceLE, Int.reduceBEq, Int.reduceBNe, Int.reduceToNat, Int.reduceNeg, Int.reduceSub, Int.reduceAdd, show ¬ ((won.length : Nat) : Int) < (won.length : Int) by omega, hwa, hnx2]
              exact ⟨_, by omega, a + 1, rfl, by omega, rfl⟩
          · obtain rfl : a = M.length := by omega
            have hfin : (M.take M.length).any (clA won) = E.clash t := by rw [List.take_length, hcl]; rfl
            have hG8 := hO8.at
            simp only [push_cast, Nat.reduceBEq, Nat.reduceAdd, Nat.reduceEqDiff, reduceCtorEq, Nat.reduceLeDiff, Nat.reduceSub, Nat.reduceMul, Nat.reduceLT, Int.reduceEq, Int.reduceLT, Int.reduceLE, Int.reduceBEq, Int.reduceBNe, Int.reduceToNat, Int.reduceNeg, Int.reduceSub, Int.reduceAdd, show ¬ ((M.length : Nat) : Int) < (M.length : Int) by omega, hfin, hG8, hx, ptrI, hkk, hkk']
            refine callH (clash_c hE8 hx ht) ?_
            rintro _ H9 n9 ⟨rfl, hn9, hE9, k9⟩
            have hO9 := hO8.same hn9 k9
            have hW9 := hW8.same hn9 k9
            have hB9 := hB8.same hn9 k9
            have hM9 := hM8.same hn9 k9
            have hG9 := hO9.at
            cases hC : E.clash t with
            | true =>
              have hce : E.comErr t seq = 11 := by rw [comErr_is hts htlt (by omega) htl, hC]; rfl
              have hcom : E.com kk t seq = E.ended kk t E.notes := by unfold SysD.com; rw [hce]; rw [if_neg (by decide), if_pos rfl]
              simp only [push_cast, Nat.reduceBEq, Nat.reduceAdd, Nat.reduceEqDiff, reduceCtorEq, Nat.reduceLeDiff, Nat.reduceSub, Nat.reduceMul, Nat.reduceLT, Int.reduceEq, Int.reduceLT, Int.reduceLE, Int.reduceBEq, Int.reduceBNe, Int.reduceToNat, Int.reduceNeg, Int.reduceSub, Int.reduceAdd, hG9, hx, ptrI, hkk, hkk']
              refine callH (commit_c hE9 hx ht seq (by omega)) ?_
              rintro _ H10 n10 ⟨rfl, S10, hE10, hn10, k10⟩
              rw [hcom] at hE10
              rw [hce]
              have hO10 := hO9.keep hn10 k10
              have hW10 := hW9.keep hn10 k10
              have hB10 := hB9.keep hn10 k10
              have hM10 := hM9.keep hn10 k10
              have hG10 := hO10.at
              have ht2 : (E.ended kk t E.notes).txns[kk]? = some t.ended := List.getElem?_set_self (by omega)
              have hce2 : (E.ended kk t E.notes).comErr t.ended seq = 12 := comErr_over (t := t.ended) hts rfl (by omega)
              simp only [push_cast, Nat.reduceBEq, Nat.reduceAdd, Nat.reduceEqDiff, reduceCtorEq, Nat.reduceLeDiff, Nat.reduceSub, Nat.reduceMul, Nat.reduceLT, Int.reduceEq, Int.reduceLT, Int.reduceLE, Int.reduceBEq, Int.reduceBNe, Int.reduceToNat, Int.reduceNeg, Int.reduceSub, Int.reduceAdd, hG10, hx, ptrI, hkk, hkk']
              refine callH (over_c hE10 hx ht2) ?_
              rintro _ H10 n10 ⟨rfl, rfl, rfl⟩
              have hG10 := hO10.at
              simp only [push_cast, Nat.reduceBEq, Nat.reduceAdd, Nat.reduceEqDiff, reduceCtorEq, Nat.reduceLeDiff, Nat.reduceSub, Nat.reduceMul, Nat.reduceLT, Int.reduceEq, Int.reduceLT, Int.reduceLE, Int.reduceBEq, Int.reduceBNe, Int.reduceToNat, Int.reduceNeg, Int.reduceSub, Int.reduceAdd, TxnD.ended, hG10, hx, ptrI, hkk, hkk']
              refine callH (commit_c hE10 hx ht2 seq (by omega)) ?_
              rintro _ H11 n11 ⟨rfl, S11, hE11, hn11, k11⟩
              rw [com_over hce2] at hE11
              rw [hce2]
              have hO11 := hO10.keep hn11 k11
              have hW11 := hW10.keep hn11 k11
              have hB11 := hB10.keep hn11 k11
              have hM11 := hM10.keep hn11 k11
              have hdl2 : (done.set kk true).length = i := by rw [List.length_set]; exact hdl
              have hel2 : (E.ended kk t E.notes).txns.length = i := by show (E.txns.set kk t.ended).length = i; rw [List.length_set]; exact hEl
              have hall2 : ∀ (j : Nat) (u : TxnD), (E.ended kk t E.notes).txns[j]? = some u → u.start = 7 ∧ (done.set kk true)[j]? = some u.over := fun j u hu => by
                have hu' : (E.txns.set kk t.ended)[j]? = some u := hu
                by_cases hj : kk = j
                · subst hj
                  rw [List.getElem?_set_self (by omega)] at hu'
                  injection hu' with hu'
                  subst hu'
                  exact ⟨hts, List.getElem?_set_self (by omega)⟩
                · rw [List.getElem?_set_ne hj] at hu' ⊢
                  exact hall j u hu'
              simp only [push_cast, Nat.reduceBEq, Nat.reduceAdd, Nat.reduceEqDiff, reduceCtorEq, Nat.reduceLeDiff, Nat.reduceSub, Nat.reduceMul, Nat.reduceLT, Int.reduceEq, Int.reduceLT, Int.reduceLE, Int.reduceBEq, Int.reduceBNe, Int.reduceToNat, Int.reduceNeg, Int.reduceSub, Int.reduceAdd, hwk]
              exact ⟨_, by omega, k + 1, seq, gw, _, _, S11, _, won, done.set kk true, rfl, by omega, rfl, hE11, hel2, hdl2, hT, hall2, by omega, by omega, by omega, hO11, hW11, hB11, hne1, hne2⟩
            | false =>
              have hce : E.comErr t seq = 0 := by rw [comErr_is hts htlt (by omega) htl, hC]; rfl
              have hcom : E.com kk t seq = E.ended kk t (noteAll E.notes (opsL t.ops) seq) := by unfold SysD.com; rw [hce]; rw [if_pos rfl]
              simp only [push_cast, Nat.reduceBEq, Nat.reduceAdd, Nat.reduceEqDiff, reduceCtorEq, Nat.reduceLeDiff, Nat.reduceSub, Nat.reduceMul, Nat.reduceLT, Int.reduceEq, Int.reduceLT, Int.reduceLE, Int.reduceBEq, Int.reduceBNe, Int.reduceToNat, Int.reduceNeg, Int.reduceSub, Int.reduceAdd, hG9, hx, ptrI, hkk, hkk']
              refine callH (commit_c hE9 hx ht seq (by omega)) ?_
              rintro _ H10 n10 ⟨rfl, S10, hE10, hn10, k10⟩
              rw [hcom] at hE10
              rw [hce]
              have hO10 := hO9.keep hn10 k10
              have hW10 := hW9.keep hn10 k10
              have hB10 := hB9.keep hn10 k10
              have hM10 := hM9.keep hn10 k10
              have hG10 := hO10.at
              have ht2 : (E.ended kk t (noteAll E.notes (opsL t.ops) seq)).txns[kk]? = some t.ended := List.getElem?_set_self (by omega)
              have hce2 : (E.ended kk t (noteAll E.notes (opsL t.ops) seq)).comErr t.ended seq = 12 := comErr_over (t := t.ended) hts rfl (by omega)
              simp only [push_cast, Nat.reduceBEq, Nat.reduceAdd, Nat.reduceEqDiff, reduceCtorEq, Nat.reduceLeDiff, Nat.reduceSub, Nat.reduceMul, Nat.reduceLT, Int.reduceEq, Int.reduceLT, Int.reduceLE, Int.reduceBEq, Int.reduceBNe, Int.reduceToNat, Int.reduceNeg, Int.reduceSub, Int.reduceAdd, hG10, hx, ptrI, hkk, hkk']
              refine callH (over_c hE10 hx ht2) ?_
              rintro _ H10 n10 ⟨rfl, rfl, rfl⟩
              have hG10 := hO10.at
              simp only [push_cast, Nat.reduceBEq, Nat.reduceAdd, Nat.reduceEqDiff, reduceCtorEq, Nat.reduceLeDiff, Nat.reduceSub, Nat.reduceMul, Nat.reduceLT, Int.reduceEq, Int.reduceLT, Int.reduceLE, Int.reduceBEq, Int.reduceBNe, Int.reduceToNat, Int.reduceNeg, Int.reduceSub, Int.reduceAdd, TxnD.ended, hG10, hx, ptrI, hkk, hkk']
              refine callH (commit_c hE10 hx ht2 seq (by omega)) ?_
              rintro _ H11 n11 ⟨rfl, S11, hE11, hn11, k11⟩
              rw [com_over hce2] at hE11
              rw [hce2]
              have hO11 := hO10.keep hn11 k11
              have hW11 := hW10.keep hn11 k11
              have hB11 := hB10.keep hn11 k11
              have hM11 := hM10.keep hn11 k11
              have hdl2 : (done.set kk true).length = i := by rw [List.length_set]; exact hdl
              have hel2 : (E.ended kk t (noteAll E.notes (opsL t.ops) seq)).txns.length = i := by show (E.txns.set kk t.ended).length = i; rw [List.length_set]; exact hEl
              have hall2 : ∀ (j : Nat) (u : TxnD), (E.ended kk t (noteAll E.notes (opsL t.ops) seq)).txns[j]? = some u → u.start = 7 ∧ (done.set kk true)[j]? = some u.over := fun j u hu => by
                have hu' : (E.txns.set kk t.ended)[j]? = some u := hu
                by_cases hj : kk = j
                · subst hj
                  rw [List.getElem?_set_self (by omega)] at hu'
                  injection hu' with hu'
                  subst hu'
                  exact ⟨hts, List.getElem?_set_self (by omega)⟩
                · rw [List.getElem?_set_ne hj] at hu' ⊢
                  exact hall j u hu'
              have hWa11 := hW11.at
              have hMa11 := hM11.at
              have hbW : Nat.ble won.length (won.map opI).length = true := by rw [Nat.ble_eq, List.length_map]; exact Nat.le_refl _
              have htW : (won.map opI).take won.length = won.map opI := List.take_of_length_le (by rw [List.length_map]; exact Nat.le_refl _)
              have hbM : Nat.ble M.length (M.map opI).length = true := by rw [Nat.ble_eq, List.length_map]; exact Nat.le_refl _
              have htM : (M.map opI).take M.length = M.map opI := List.take_of_length_le (by rw [List.length_map]; exact Nat.le_refl _)
              have hal3 : (∀ it ∈ M.map opI, it.length = 3) = True := eq_true fun it hit => by obtain ⟨y, _, rfl⟩ := List.mem_map.1 hit; rfl
              have q40 : (won.length + M.length) * 40 ≤ 140737488355328 := by omega
              have ws1 : IntKind.i64.wrap (seq + (M.length : Int)) = seq + M.length := IntWalk.i64_in _ (by omega)
              have ws2 : IntKind.i64.wrap (seq + (M.length : Int) + 1) = seq + M.length + 1 := IntWalk.i64_in _ (by omega)
              simp only [push_cast, Nat.reduceBEq, Nat.reduceAdd, Nat.reduceEqDiff, reduceCtorEq, Nat.reduceLeDiff, Nat.reduceSub, Nat.reduceMul, Nat.reduceLT, Int.reduceEq, Int.reduceLT, Int.reduceLE, Int.reduceBEq, Int.reduceBNe, Int.reduceToNat, Int.reduceNeg, Int.reduceSub, Int.reduceAdd, hwk, hWa11, hMa11, hbW, htW, hbM, htM, hal3, q40, ws1, ws2]
              have hlen2 : won.length + M.length = (won ++ M).length := List.length_append.symm
              have hmap2 : List.map opI won ++ List.map opI M = List.map opI (won ++ M) := List.map_append.symm
              rw [hlen2, hmap2]
              have hT2 : Told (noteAll E.notes (opsL t.ops) seq) (won ++ M) := by
                rw [← hM]
                exact told_note _ _ _ _ hT (by omega) fun o ho => by obtain ⟨e, _, _, hk⟩ := opsL_key hok hval ho; rw [hk]; exact e.key.2
              have hlw : (won ++ M).length ≤ 200 * (k + 1) := by rw [← hlen2]; omega
              refine ⟨_, by omega, k + 1, seq + M.length + 1, n11, _, n11 + 1, S11, _, won ++ M, done.set kk true, rfl, by omega, rfl, (hE11.u hW11.2.2).new (Nat.le_refl _) (Nat.le_succ _), hel2, hdl2, hT2, hall2, by omega, by omega, hlw, (hO11.other hne2).new (Nat.le_refl _) (Nat.le_succ _), ⟨upd_same _ _ _, Nat.lt_succ_self _, hE11.nu (Nat.le_refl _)⟩, (hB11.other hne1).new (Nat.le_refl _) (Nat.le_succ _), fun e => by have := hB11.2.1; omega, fun e => by have := hO11.2.1; omega⟩
    · simp only [push_cast, Nat.reduceBEq, Nat.reduceAdd, Nat.reduceEqDiff, reduceCtorEq, Nat.reduceLeDiff, Nat.reduceSub, Nat.reduceMul, Nat.reduceLT, Int.reduceEq, Int.reduceLT, Int.reduceLE, Int.reduceBEq, Int.reduceBNe, Int.reduceToNat, Int.reduceNeg, Int.reduceSub, Int.reduceAdd, show ¬ (k : Int) < (i : Int) by omega]
end Go.Proofs.Ytnaiaacgcjikiaa
