/- Chapter 21's statement TxnForgets, by the walk over a heap. -/
import Derived.Test.YtnaiaacgcjikiaaTxForgW
set_option linter.unusedVariables false
set_option linter.unusedSimpArgs false
namespace Go.Proofs.Ytnaiaacgcjikiaa
open Go Go.RowKit Hv
set_option maxRecDepth 20000
set_option maxHeartbeats 8000000
/-- A call of the row. -/
structure MovD where
  call : Int
  who : Int
  n : Int
  key : ByteArray
  val : ByteArray
def movI (m : MovD) : List AV := [.lit (.int .i64 m.call), .lit (.int .i64 m.who), .lit (.int .i64 m.n), .lit (.string m.key), .lit (.string m.val)]
theorem noId_movs (l : List MovD) : NoId (.sl (l.map movI)) := by simp [noId_sl, movI, noId_lit]
theorem noId_bools (l : List Bool) : NoId (.sl (l.map boolI)) := by
  simp only [noId_sl]
  intro it hit c hc
  obtain ⟨x, _, rfl⟩ := List.mem_map.1 hit
  simp only [boolI, List.mem_singleton] at hc
  subst hc
  simp [noId_lit]
theorem TxnForgets_h (row : List MovD) (when_ : List Bool) : Hv.ACalls Try.prog 5 [.sl (row.map movI), .sl (when_.map boolI)] (.lit (.bool true)) := by
  refine acallsC_of (rs := [.tmp 4]) ⟨[0, 1, 4, 5, 6, 7, 8, 9, 10, 11, 12, 13, 14, 15, 16, 17, 18, 19, 21, 31, 47, 52, 74, 76, 87, 97, 98, 118, 134, 160, 205], [], [], [(25, [(0, [], []), (1, [], []), (2, [], []), (3, [], []), (4, [], []), (5, [], []), (6, [], []), (7, [], []), (9, [], []), (10, [], []), (11, [], []), (12, [], []), (13, [], []), (14, [], []), (15, [], []), (16, [], []), (8, [11, 12, 14, 16], [3, 5, 7, 2, 4, 6, 0, 1]), (17, [], [12, 14, 16, 8, 11, 13, 15, 3, 5, 7, 9, 10, 2, 4, 6, 0, 1]), (18, [], [8, 17, 0, 1, 2, 3, 4, 5, 6, 7, 12, 14, 16, 11, 13, 15, 9, 10]), (19, [], [17, 18, 0, 1, 2, 3, 4, 5, 6, 7, 8, 9, 10, 11, 12, 13, 14, 15, 16])]), (27, [(0, [], []), (1, [], []), (2, [], []), (3, [], []), (4, [], []), (5, [], []), (7, [], []), (8, [], []), (9, [], []), (10, [], []), (11, [], []), (12, [], []), (6, [9, 10, 12], [3, 5, 2, 4, 0, 1]), (13, [], [10, 12, 6, 9, 11, 3, 5, 7, 8, 2, 4, 0, 1]), (14, [], [6, 13, 0, 1, 2, 3, 4, 5, 10, 12, 9, 11, 7, 8]), (15, [], [13, 14, 0, 1, 2, 3, 4, 5, 6, 7, 8, 9, 10, 11, 12])]), (31, [(0, [], []), (1, [], []), (2, [], []), (3, [], []), (4, [], []), (5, [], []), (7, [], []), (8, [], []), (9, [], []), (10, [], []), (11, [], []), (12, [], []), (6, [10, 11], [0, 4, 5, 3, 1, 2]), (13, [], [7, 11, 12, 6, 10, 0, 4, 5, 8, 9, 3, 1, 2]), (14, [], [6, 13, 0, 1, 2, 3, 4, 5, 7, 11, 12, 10, 8, 9]), (15, [], [13, 14, 0, 1, 2, 3, 4, 5, 6, 7, 8, 9, 10, 11, 12])]), (33, [(0, [], []), (1, [], []), (2, [], []), (3, [], []), (4, [], []), (6, [], []), (7, [], []), (8, [], []), (9, [], []), (10, [], []), (5, [9, 10], [0, 4, 3, 1, 2]), (11, [], [6, 10, 5, 9, 0, 4, 7, 8, 3, 1, 2]), (12, [], [5, 11, 0, 1, 2, 3, 4, 6, 10, 9, 7, 8]), (13, [], [11, 12, 0, 1, 2, 3, 4, 5, 6, 7, 8, 9, 10])]), (34, [(0, [], []), (1, [], []), (2, [], []), (3, [], []), (4, [], []), (5, [], []), (6, [], []), (7, [], []), (8, [], []), (10, [], []), (11, [], []), (12, [], []), (13, [], []), (14, [], []), (9, [13, 14], [4, 8, 3, 7, 2, 5, 6, 0, 1]), (15, [], [10, 14, 9, 3, 13, 4, 8, 2, 11, 12, 7, 0, 1, 5, 6]), (16, [], []), (17, [], []), (18, [], []), (19, [], []), (20, [], []), (21, [], []), (22, [], []), (24, [], []), (25, [], []), (26, [], []), (27, [], []), (23, [26, 27], [22, 18, 21, 17, 15, 19, 20, 3, 16, 10, 14, 9, 2, 13, 4, 8, 0, 1, 11, 12, 7, 5, 6]), (28, [], [27, 23, 18, 26, 22, 17, 15, 24, 25, 21, 3, 16, 10, 14, 9, 19, 20, 2, 13, 4, 8, 0, 1, 11, 12, 7, 5, 6]), (29, [], [23, 28, 18, 22, 27, 17, 15, 21, 26, 3, 16, 10, 14, 9, 19, 20, 24, 25, 2, 13, 4, 8, 0, 1, 11, 12, 7, 5, 6]), (30, [], []), (31, [], [])])]⟩ TOk mixed Try.func5 rfl rfl (by kernel_rfl) (by kernel_rfl) rfl (List.forall_mem_cons.2 ⟨noId_movs _, List.forall_mem_cons.2 ⟨noId_bools _, fun x h => absurd h List.not_mem_nil⟩⟩) (.lit _) ?_
  simp only [push_cast, Nat.reduceBEq, Nat.reduceAdd, Nat.reduceEqDiff, reduceCtorEq, Nat.reduceLeDiff, Nat.reduceSub, Nat.reduceMul, Nat.reduceLT, Int.reduceEq, Int.reduceLT, Int.reduceLE, Int.reduceBEq, Int.reduceBNe, Int.reduceToNat, Int.reduceNeg, Int.reduceSub, Int.reduceAdd]
  refine callH races_h ?_
  rintro _ H0 n0 ⟨rfl, hn0, _⟩
  simp only [push_cast, Nat.reduceBEq, Nat.reduceAdd, Nat.reduceEqDiff, reduceCtorEq, Nat.reduceLeDiff, Nat.reduceSub, Nat.reduceMul, Nat.reduceLT, Int.reduceEq, Int.reduceLT, Int.reduceLE, Int.reduceBEq, Int.reduceBNe, Int.reduceToNat, Int.reduceNeg, Int.reduceSub, Int.reduceAdd]
  refine callH new_c ?_
  rintro _ H1 _ ⟨rfl, rfl, h1, _⟩
  dsimp only at h1
  simp only [push_cast, Nat.reduceBEq, Nat.reduceAdd, Nat.reduceEqDiff, reduceCtorEq, Nat.reduceLeDiff, Nat.reduceSub, Nat.reduceMul, Nat.reduceLT, Int.reduceEq, Int.reduceLT, Int.reduceLE, Int.reduceBEq, Int.reduceBNe, Int.reduceToNat, Int.reduceNeg, Int.reduceSub, Int.reduceAdd]
  refine callH new_c ?_
  rintro _ H2 _ ⟨rfl, rfl, h2, k2⟩
  dsimp only at h2 k2
  simp only [push_cast, Nat.reduceBEq, Nat.reduceAdd, Nat.reduceEqDiff, reduceCtorEq, Nat.reduceLeDiff, Nat.reduceSub, Nat.reduceMul, Nat.reduceLT, Int.reduceEq, Int.reduceLT, Int.reduceLE, Int.reduceBEq, Int.reduceBNe, Int.reduceToNat, Int.reduceNeg, Int.reduceSub, Int.reduceAdd]
  have hT0 : Two H2 (n0 + 4 + 4) (fun j => n0 ≤ j ∧ j < n0 + 4) (fun j => n0 + 4 ≤ j ∧ j < n0 + 4 + 4) (n0 + 3) (n0 + 4 + 3) [] [] ⟨([], 0), []⟩ ⟨([], 0), []⟩ := ⟨h1.frame (by omega) fun j hj => k2 j hj.2, h2, fun j hj hj' => by omega⟩
  obtain ⟨a, ha⟩ : ∃ a, n0 + 3 = a := ⟨_, rfl⟩
  obtain ⟨b, hb⟩ : ∃ b, n0 + 4 + 3 = b := ⟨_, rfl⟩
  obtain ⟨g, hg⟩ : ∃ g, n0 + 4 + 4 = g := ⟨_, rfl⟩
  rw [ha, hb, hg] at hT0
  simp only [ha, hb, hg]
  have hT1 := (hT0.new (o := some (.row false 28 [])) (Nat.le_refl g) (Nat.le_succ g)).new (o := some (.row false 28 [])) (Nat.le_refl (g + 1)) (Nat.le_succ (g + 1))
  have hX1 : Own (upd (upd H2 g (some (.row false 28 []))) (g + 1) (some (.row false 28 []))) (g + 1 + 1) (Or2 (fun j => n0 ≤ j ∧ j < n0 + 4) (fun j => n0 + 4 ≤ j ∧ j < g)) g (.row false 28 []) := ⟨(upd_other (by omega)).trans (upd_same _ _ _), by omega, fun hh => by rcases hh with hh | hh <;> (have := hh.2; omega)⟩
  have hY1 : Own (upd (upd H2 g (some (.row false 28 []))) (g + 1) (some (.row false 28 []))) (g + 1 + 1) (Or2 (fun j => n0 ≤ j ∧ j < n0 + 4) (fun j => n0 + 4 ≤ j ∧ j < g)) (g + 1) (.row false 28 []) := ⟨upd_same _ _ _, by omega, fun hh => by rcases hh with hh | hh <;> (have := hh.2; omega)⟩
  refine loopK (fun q s => ∃ (i : Nat) (top : Int) (H4 : Hp) (n4 gx gy m : Nat) (Sa Sb : Nat → Prop) (Pa Pb : List (Nat × Nat)) (Da Db : SysD), s = ⟨[(0, .sl (row.map movI)), (1, .sl (when_.map boolI)), (5, .ptr a 0), (6, .ptr b 0), (7, .rw gx 1 0 m), (8, .rw gy 1 0 m), (9, .lit (.int .i64 top)), (10, .lit (.int .i64 (i : Int)))], H4, n4⟩ ∧ i ≤ 100 ∧ q = 100 - i ∧ Two H4 n4 Sa Sb a b Pa Pb Da Db ∧ Same Da Db top ∧ top ≤ 300 * i ∧ Da.txns.length = m ∧ m ≤ i ∧ openN Da ≤ 16 ∧
      Own H4 n4 (Or2 Sa Sb) gx (.row false 28 (Pa.map ptrI)) ∧ Own H4 n4 (Or2 Sa Sb) gy (.row false 28 (Pb.map ptrI)) ∧ gx ≠ gy) _ [0, 1, 5, 6, 7, 8, 9, 10]
    ⟨0, 0, _, _, g, g + 1, 0, _, _, [], [], _, _, rfl, Nat.zero_le _, rfl, hT1, Same.zero, by decide, rfl, Nat.le_refl _, by decide, hX1, hY1, by omega⟩ ?_
  rintro q _ ⟨i, top, H4, n4, gx, gy, m, Sa, Sb, Pa, Pb, Da, Db, rfl, hi, rfl, hT, hS, htop, hm, hmi, hop, hX, hY, hxy⟩
  by_cases hir : i < row.length
  · by_cases hi100 : i < 100
    · have hir' : (i : Int) < (row.length : Int) := by omega
      have hi' : (i : Int) < 100 := by omega
      obtain ⟨mv, hmv⟩ : ∃ mv, row[i]? = some mv := ⟨_, List.getElem?_eq_getElem hir⟩
      have htop0 := hS.top0
      rw [← stopC_eq (Code.seq (Code.seq (Code.region 12 _ _) _) _)]
      obtain ⟨V, hV⟩ : ∃ V, [AV.lit (.int .i64 mv.call), AV.lit (.int .i64 mv.who), AV.lit (.int .i64 mv.n), AV.lit (.string mv.key), AV.lit (.string mv.val)] = V := ⟨_, rfl⟩
      have hT5 : ∀ z c, Two (upd (upd H4 n4 z) n4 c) (n4 + 1) Sa Sb a b Pa Pb Da Db := fun z c => (hT.new (Nat.le_refl n4) (Nat.le_succ n4)).u (hT.nu (Nat.le_refl n4))
      have hX5 : ∀ z c, Own (upd (upd H4 n4 z) n4 c) (n4 + 1) (Or2 Sa Sb) gx (.row false 28 (Pa.map ptrI)) := fun z c => (hX.new (Nat.le_refl n4) (Nat.le_succ n4)).other (by have := hX.2.1; omega)
      have hY5 : ∀ z c, Own (upd (upd H4 n4 z) n4 c) (n4 + 1) (Or2 Sa Sb) gy (.row false 28 (Pb.map ptrI)) := fun z c => (hY.new (Nat.le_refl n4) (Nat.le_succ n4)).other (by have := hY.2.1; omega)
      have hV5 : ∀ z, Own (upd (upd H4 n4 z) n4 (some (.cells V))) (n4 + 1) (Or2 Sa Sb) n4 (.cells V) := fun z => ⟨upd_same _ _ _, Nat.lt_succ_self n4, hT.nu (Nat.le_refl n4)⟩
      have hstb : ∀ t ∈ Db.txns, -9223372036854775808 ≤ t.start ∧ t.start ≤ 9223372036854775807 := fun t ht => by
        have := hS.st t (by rw [hS.tx]; exact ht)
        omega
      have hopb : openN Db ≤ 1000000 := by rw [← hS.openN]; omega
      have htop' : top ≤ 72057594037927935 := by omega
      have okb : MapOk Db.notes.1 Db.notes.2 := by
        obtain ⟨N, _, _, ok, _⟩ := hT.hb.noted
        exact ok
      rw [← hV] at hV5
      clear hT hX hY
      refine' meetG (fun meet => _) _
      rotate_left
      · by_cases hwl : i < when_.length
        · have hwl' : (i : Int) < (when_.length : Int) := Int.ofNat_lt.2 hwl
          obtain ⟨w, hw⟩ : ∃ w, when_[i]? = some w := ⟨_, List.getElem?_eq_getElem hwl⟩
          cases w with
          | true =>
            simp only [push_cast, Nat.reduceBEq, Nat.reduceAdd, Nat.reduceEqDiff, reduceCtorEq, Nat.reduceLeDiff, Nat.reduceSub, Nat.reduceMul, Nat.reduceLT, Int.reduceEq, Int.reduceLT, Int.reduceLE, Int.reduceBEq, Int.reduceBNe, Int.reduceToNat, Int.reduceNeg, Int.reduceSub, Int.reduceAdd, hir, hir', hi', hmv, movI, hwl, hwl', hw, boolI]
            refine callH (forget_c (hT5 _ _).hb hstb hopb) ?_
            rintro r H6 n6 ⟨l, hl, hP⟩
            obtain ⟨_, Sb6, hT6, hn6, k6⟩ := (hT5 _ _).right hP
            have hX6 := (hX5 _ _).keep hn6 k6
            have hY6 := (hY5 _ _).keep hn6 k6
            have hV6 := (hV5 _).keep hn6 k6
            have hS6 := hS.forget okb hl htop'
            obtain ⟨D6, hD6⟩ : ∃ D, Db.forgot l = D := ⟨_, rfl⟩
            rw [hD6] at hT6 hS6
            clear hD6
            clear hP k6 hn6
            simp only [push_cast, Nat.reduceBEq, Nat.reduceAdd, Nat.reduceEqDiff, reduceCtorEq, Nat.reduceLeDiff, Nat.reduceSub, Nat.reduceMul, Nat.reduceLT, Int.reduceEq, Int.reduceLT, Int.reduceLE, Int.reduceBEq, Int.reduceBNe, Int.reduceToNat, Int.reduceNeg, Int.reduceSub, Int.reduceAdd]
            obtain ⟨v47, hp⟩ : ∃ v, ((47, AV.lit (.bool true)) : Nat × AV) = (47, v) := ⟨_, rfl⟩
            rw [hp]
            clear hp
            revert hS6
            revert hT6
            revert hV6
            revert hY6
            revert hX6
            revert D6
            revert Sb6
            revert n6
            revert H6
            revert v47
            exact meet
          | false =>
            simp only [push_cast, Nat.reduceBEq, Nat.reduceAdd, Nat.reduceEqDiff, reduceCtorEq, Nat.reduceLeDiff, Nat.reduceSub, Nat.reduceMul, Nat.reduceLT, Int.reduceEq, Int.reduceLT, Int.reduceLE, Int.reduceBEq, Int.reduceBNe, Int.reduceToNat, Int.reduceNeg, Int.reduceSub, Int.reduceAdd, hir, hir', hi', hmv, movI, hwl, hwl', hw, boolI]
            exact meet (.lit (.bool false)) _ (n4 + 1) Sb Db (hX5 _ _) (hY5 _ _) (hV5 _) (hT5 _ _) hS
        · simp only [push_cast, Nat.reduceBEq, Nat.reduceAdd, Nat.reduceEqDiff, reduceCtorEq, Nat.reduceLeDiff, Nat.reduceSub, Nat.reduceMul, Nat.reduceLT, Int.reduceEq, Int.reduceLT, Int.reduceLE, Int.reduceBEq, Int.reduceBNe, Int.reduceToNat, Int.reduceNeg, Int.reduceSub, Int.reduceAdd, hir, hir', hi', hmv, movI, hwl, show ¬ (i : Int) < (when_.length : Int) from fun h => hwl (Int.ofNat_lt.1 h)]
          exact meet (.lit (.bool false)) _ (n4 + 1) Sb Db (hX5 _ _) (hY5 _ _) (hV5 _) (hT5 _ _) hS
      · clear hT5 hX5 hY5 hV5 hS hstb hopb okb
        intro v47 H5 n5 Sb5 D5 hX hY hVo hT hS
        rw [stopC_eq, ← stopC_eq (Code.seq (Code.region 34 _ _) _)]
        have hVa := hVo.at
        by_cases hc1 : mv.call = 1
        · obtain ⟨r3, hr3, hm1, hm2⟩ := u64_mod mv.n (K := 3) (by decide) (by decide)
          simp only [show ((3 : Nat) : Int) = 3 from rfl] at hm1
          have hwt : IntKind.i64.wrap (top + (r3 : Int)) = top + (r3 : Int) := IntWalk.i64_in _ (by omega)
          simp only [push_cast, Nat.reduceBEq, Nat.reduceAdd, Nat.reduceEqDiff, reduceCtorEq, Nat.reduceLeDiff, Nat.reduceSub, Nat.reduceMul, Nat.reduceLT, Int.reduceEq, Int.reduceLT, Int.reduceLE, Int.reduceBEq, Int.reduceBNe, Int.reduceToNat, Int.reduceNeg, Int.reduceSub, Int.reduceAdd, hVa, hc1, hm1, hm2, hwt]
          have hSr := hS.raise (top' := top + (r3 : Int)) (by omega)
          have htr : 0 ≤ top + (r3 : Int) ∧ top + (r3 : Int) ≤ 72057594037927935 := by omega
          have hwi := wrap_nat0 (k := i) (by omega)
          have htop1 : top + (r3 : Int) ≤ 300 * ((i + 1 : Nat) : Int) := by omega
          by_cases hfull : openN Da < 16
          · have hPa : Pa.length = m := by rw [hT.ha.len]; exact hm
            have hPb : Pb.length = m := by rw [hT.hb.len, ← hS.tx]; exact hm
            refine callH (begin_c hT.ha _ htr hfull) ?_
            rintro r H6 n6 hP
            obtain ⟨rfl, Sa6, hT6, hn6, k6⟩ := hT.left hP
            have hX6 := hX.keep hn6 k6
            have hY6 := hY.keep hn6 k6
            simp only [push_cast, Nat.reduceBEq, Nat.reduceAdd, Nat.reduceEqDiff, reduceCtorEq, Nat.reduceLeDiff, Nat.reduceSub, Nat.reduceMul, Nat.reduceLT, Int.reduceEq, Int.reduceLT, Int.reduceLE, Int.reduceBEq, Int.reduceBNe, Int.reduceToNat, Int.reduceNeg, Int.reduceSub, Int.reduceAdd]
            refine callH (begin_c hT6.hb _ htr (by rw [← hS.openN]; exact hfull)) ?_
            rintro r H7 n7 hP
            obtain ⟨rfl, Sb7, hT7, hn7, k7⟩ := hT6.right hP
            have hX7 := hX6.keep hn7 k7
            have hY7 := hY6.keep hn7 k7
            have hXa := hX7.at
            have hYa := hY7.at
            have e1 : (n7 == gx) = false := nb (by have := hX7.2.1; omega)
            have e2 : (n7 == gy) = false := nb (by have := hY7.2.1; omega)
            have e3 : (n7 + 1 == gy) = false := nb (by have := hY7.2.1; omega)
            have e4 : (gx == gy) = false := nb hxy
            have e5 : (n7 + 1 + 1 == gy) = false := nb (by have := hY7.2.1; omega)
            have q5 : (m + 1) * 8 ≤ 140737488355328 := by omega
            simp only [push_cast, Nat.reduceBEq, Nat.reduceAdd, Nat.reduceEqDiff, reduceCtorEq, Nat.reduceLeDiff, Nat.reduceSub, Nat.reduceMul, Nat.reduceLT, Int.reduceEq, Int.reduceLT, Int.reduceLE, Int.reduceBEq, Int.reduceBNe, Int.reduceToNat, Int.reduceNeg, Int.reduceSub, Int.reduceAdd, hXa, hYa, hPa, hPb, List.length_map, e1, e2, e3, e4, e5, q5, hwi, List.length_append]
            have hT8 := fun o1 o2 o3 o4 o5 o6 => (((((hT7.new (o := o1) (Nat.le_refl n7) (Nat.le_succ n7)).u (o := o2) hX7.2.2).new (o := o3) (Nat.le_refl (n7 + 1)) (Nat.le_succ (n7 + 1))).new (o := o4) (Nat.le_refl (n7 + 1 + 1)) (Nat.le_succ (n7 + 1 + 1))).u (o := o5) hY7.2.2).new (o := o6) (Nat.le_refl (n7 + 1 + 1 + 1)) (Nat.le_succ (n7 + 1 + 1 + 1))
            have hgy7 := hY7.2.1
            refine ⟨_, by omega, i + 1, _, _, _, n7 + 1, n7 + 1 + 1 + 1, m + 1, Sa6, Sb7, Pa ++ [(n5 + 1, n5)], Pb ++ [(n6 + 1, n6)], _, _, rfl, by omega, rfl, hT8 _ _ _ _ _ _, hSr.begin, htop1, by show (Da.txns ++ [_]).length = _; rw [List.length_append, hm]; rfl, by omega, by rw [openN_snoc]; omega, ⟨?_, by omega, hT7.nu (by omega)⟩, ⟨?_, by omega, hT7.nu (by omega)⟩, by omega⟩
            · rw [upd_other (by omega), upd_other (by omega), upd_other (by omega), upd_same, List.map_append]; rfl
            · rw [upd_same, List.map_append]; rfl
          · refine callH (begin_full hT.ha _ htr (by omega)) ?_
            rintro _ H5 n5 ⟨rfl, rfl, rfl⟩
            simp only [push_cast, Nat.reduceBEq, Nat.reduceAdd, Nat.reduceEqDiff, reduceCtorEq, Nat.reduceLeDiff, Nat.reduceSub, Nat.reduceMul, Nat.reduceLT, Int.reduceEq, Int.reduceLT, Int.reduceLE, Int.reduceBEq, Int.reduceBNe, Int.reduceToNat, Int.reduceNeg, Int.reduceSub, Int.reduceAdd]
            refine callH (begin_full hT.hb _ htr (by rw [← hS.openN]; omega)) ?_
            rintro _ H5 n5 ⟨rfl, rfl, rfl⟩
            simp only [push_cast, Nat.reduceBEq, Nat.reduceAdd, Nat.reduceEqDiff, reduceCtorEq, Nat.reduceLeDiff, Nat.reduceSub, Nat.reduceMul, Nat.reduceLT, Int.reduceEq, Int.reduceLT, Int.reduceLE, Int.reduceBEq, Int.reduceBNe, Int.reduceToNat, Int.reduceNeg, Int.reduceSub, Int.reduceAdd, hwi]
            exact ⟨_, by omega, i + 1, _, H5, n5, gx, gy, m, Sa, Sb5, Pa, Pb, Da, D5, rfl, by omega, rfl, hT, hSr, htop1, hm, by omega, hop, hX, hY, hxy⟩
        · have hwi := wrap_nat0 (k := i) (by omega)
          have htop1 : top ≤ 300 * ((i + 1 : Nat) : Int) := by omega
          have hcb1 : (mv.call == 1) = false := beq_eq_false_iff_ne.2 hc1
          by_cases hm0 : m = 0
          · have hm0' : (m : Int) = 0 := by omega
            simp only [push_cast, Nat.reduceBEq, Nat.reduceAdd, Nat.reduceEqDiff, reduceCtorEq, Nat.reduceLeDiff, Nat.reduceSub, Nat.reduceMul, Nat.reduceLT, Int.reduceEq, Int.reduceLT, Int.reduceLE, Int.reduceBEq, Int.reduceBNe, Int.reduceToNat, Int.reduceNeg, Int.reduceSub, Int.reduceAdd, hVa, hcb1, hm0', hwi]
            exact ⟨_, by omega, i + 1, _, H5, n5, gx, gy, m, Sa, Sb5, Pa, Pb, Da, D5, rfl, by omega, rfl, hT, hS, htop1, hm, by omega, hop, hX, hY, hxy⟩
          · have hm0' : ¬ (m : Int) = 0 := by omega
            have hmb : ((m : Int) == 0) = false := beq_eq_false_iff_ne.2 hm0'
            have hum : IntKind.u64.wrap (m : Int) = (m : Int) := by simp [IntKind.wrap, IntKind.bits, IntKind.signed]; omega
            obtain ⟨k, hk, hk1, hk2⟩ := u64_mod mv.who (K := m) (by omega) (by omega)
            have hPa : Pa.length = m := by rw [hT.ha.len]; exact hm
            have hPb : Pb.length = m := by rw [hT.hb.len, ← hS.tx]; exact hm
            obtain ⟨xa, hxa⟩ : ∃ x, Pa[k]? = some x := ⟨_, List.getElem?_eq_getElem (by omega)⟩
            obtain ⟨xb, hxb⟩ : ∃ x, Pb[k]? = some x := ⟨_, List.getElem?_eq_getElem (by omega)⟩
            obtain ⟨t, hta⟩ : ∃ t, Da.txns[k]? = some t := ⟨_, List.getElem?_eq_getElem (by omega)⟩
            have htb : D5.txns[k]? = some t := by rw [← hS.tx]; exact hta
            have hXa := hX.at
            have hYa := hY.at
            have hxr : (Pa.map ptrI)[k]? = some [.ptr xa.1 0] := by rw [List.getElem?_map, hxa]; rfl
            have hyr : (Pb.map ptrI)[k]? = some [.ptr xb.1 0] := by rw [List.getElem?_map, hxb]; rfl
            have htk : (Pa.map ptrI).take m = Pa.map ptrI := List.take_of_length_le (by rw [List.length_map, hPa]; exact Nat.le_refl _)
            have htk2 : (Pb.map ptrI).take m = Pb.map ptrI := List.take_of_length_le (by rw [List.length_map, hPb]; exact Nat.le_refl _)
            have hbm : Nat.ble m m = true := Nat.ble_self_eq_true m
            have hk' : (k : Int) < (m : Int) := Int.ofNat_lt.2 hk
-- CALLS
            have hol := sysOps_len hT.ha hta
            have hwt1 : IntKind.i64.wrap (top + 1) = top + 1 := IntWalk.i64_in _ (by omega)
            have hwt2 : IntKind.i64.wrap (top + 1 + ((opsOf t).length : Int)) = top + 1 + ((opsOf t).length : Int) := IntWalk.i64_in _ (by omega)
            have htop2 : top + 1 + ((opsOf t).length : Int) ≤ 300 * ((i + 1 : Nat) : Int) := by omega
            have hseq : -1000000000000000000 ≤ top + 1 ∧ top + 1 ≤ 1000000000000000000 := by omega
            have hce : D5.comErr t (top + 1) = Da.comErr t (top + 1) := (hS.comErr (List.mem_of_getElem? hta) (top + 1)).symm
            refine' meetG (fun meet => _) _
            rotate_left
            · by_cases hc2 : mv.call = 2
              · simp only [push_cast, Nat.reduceBEq, Nat.reduceAdd, Nat.reduceEqDiff, reduceCtorEq, Nat.reduceLeDiff, Nat.reduceSub, Nat.reduceMul, Nat.reduceLT, Int.reduceEq, Int.reduceLT, Int.reduceLE, Int.reduceBEq, Int.reduceBNe, Int.reduceToNat, Int.reduceNeg, Int.reduceSub, Int.reduceAdd, hc2, hVa, hcb1, hm0', hmb, hum, hk1, hk2, hXa, hYa, hPa, hPb, hxr, hyr, htk, htk2, hbm, hk', List.length_map, ptrI]
                refine callHD (put_c hT.ha hxa hta mv.key mv.val) ?_
                rintro r H6 n6 hP
                obtain ⟨rfl, Sa6, hT6, hn6, k6⟩ := hT.left hP
                have hX6 := hX.keep hn6 k6
                have hY6 := hY.keep hn6 k6
                have hV6 := hVo.keep hn6 k6
                have hYb := hY6.at
                have hVb := hV6.at
                rw [Hv.contD_at]
                refine ⟨by simp only [push_cast, Nat.reduceBEq, Nat.reduceAdd, Nat.reduceEqDiff, reduceCtorEq, Nat.reduceLeDiff, Nat.reduceSub, Nat.reduceMul, Nat.reduceLT, Int.reduceEq, Int.reduceLT, Int.reduceLE, Int.reduceBEq, Int.reduceBNe, Int.reduceToNat, Int.reduceNeg, Int.reduceSub, Int.reduceAdd, hYb, hVb, hPb, hyr, htk2, hbm, hk', List.length_map, ptrI], ?_⟩
                simp only [push_cast, Nat.reduceBEq, Nat.reduceAdd, Nat.reduceEqDiff, reduceCtorEq, Nat.reduceLeDiff, Nat.reduceSub, Nat.reduceMul, Nat.reduceLT, Int.reduceEq, Int.reduceLT, Int.reduceLE, Int.reduceBEq, Int.reduceBNe, Int.reduceToNat, Int.reduceNeg, Int.reduceSub, Int.reduceAdd, hYb, hVb, hPb, hyr, htk2, hbm, hk', List.length_map, ptrI]
                refine callHD (put_c hT6.hb hxb htb mv.key mv.val) ?_
                rintro r H7 n7 hP
                obtain ⟨rfl, Sb7, hT7, hn7, k7⟩ := hT6.right hP
                clear hP
                have hX7 := hX6.keep hn7 k7
                have hY7 := hY6.keep hn7 k7
                clear hn7 k7 hT6 hX6 hY6 hYb hVb hV6 k6 hn6
                rw [Hv.contD_at]
                refine ⟨by simp only [push_cast, Nat.reduceBEq, Nat.reduceAdd, Nat.reduceEqDiff, reduceCtorEq, Nat.reduceLeDiff, Nat.reduceSub, Nat.reduceMul, Nat.reduceLT, Int.reduceEq, Int.reduceLT, Int.reduceLE, Int.reduceBEq, Int.reduceBNe, Int.reduceToNat, Int.reduceNeg, Int.reduceSub, Int.reduceAdd], ?_⟩
                obtain ⟨ev, hev⟩ : ∃ ev, chErr t ⟨1, mv.key, mv.val⟩ = ev := ⟨_, rfl⟩
                rw [hev]
                clear hev
                rw [← stopK_eq (Hv.ron _ _)]
                simp only [Hv.rk_nil, Hv.rk_cons, Hv.stepK, Hv.ron_at, Hv.cwp_draw, Hv.rkD_nil, Hv.rkD_cons, Hv.effK, Hv.contD_at, Hv.pinsOk, Hv.annOk, Hv.newOf, Hv.dstD, Hv.isR, Hv.gdval, Hv.dval, Hv.cwp_skip, Hv.cwp_region, Hv.cwp_seq, Hv.cwp_block, Hv.cwp_cond, Hv.cwp_loop, Hv.cwp_exit, Hv.cwp_ret, Hv.cwp_label, Hv.den_nil, Hv.den_sq_nrm, Hv.den_sq_ret, Hv.den_sq_ext, Hv.den_bl_nrm, Hv.den_bl_ret, Hv.den_bl_ext, Hv.den_lp_nrm, Hv.den_lp_ret, Hv.den_lp_ext, Hv.gsem, Hv.AV.said?, Hv.AV.skip, Hv.fop, Hv.feff, Hv.fapp, Hv.acutM, Hv.fval, Hv.callee?, Hv.AS.eval, Hv.AS.get, Hv.AS.set, Hv.AS.put, Hv.AS.keep, Hv.AS.fresh, Hv.AS.chg, Hv.readA, Hv.aidx, Hv.alook, Hv.aentry, Hv.keyKind, Hv.lkp, Hv.upd_at, Hv.AV.view, Hv.AV.bool?, Hv.AV.int?, Hv.AV.lit?, Hv.AV.its?, Hv.AV.num?, Hv.isNilV, Hv.isNilO, Hv.apick, Hv.alen, Hv.acut, Hv.acutL, Hv.acutS, Hv.acutR, Hv.onum, Hv.abin, Hv.isShift, Hv.aint, Hv.aun, Hv.astr, Hv.anews, Hv.fits, Hv.piece, Hv.headLen, Hv.nonNil, Hv.litArgs, Hv.ptrEq, Hv.boolEq, Hv.aptr, Hv.binv, Hv.aeq, Hv.AV.aggc?, Hv.lits, Hv.AV.cells, Hv.AV.isOne, Hv.setR, Hv.abuild, Hv.bsItems, Hv.szN, Hv.zeroA, Hv.beginF, Hv.HPost, Hv.APost, Hv.rets, Hv.retv, Hv.retA, Hv.sealH, Hv.sealO, Value.oneCell', Value.cells, List.map_cons, List.map_nil, List.drop_zero, List.drop_succ_cons, List.getElem?_cons_zero, List.getElem?_cons_succ, List.getElem?_map, Option.map_some, Option.map_none, Option.bind_some, Option.bind_none, cond_true, cond_false, decide_true, decide_false, Nat.add_zero, Nat.zero_add, and_true, beq_self_eq_true, if_true, if_false, ite_true, ite_false, Int.toNat_natCast, Hv.beqE, List.all_cons, List.all_nil, Bool.and_true, Bool.true_and, Bool.or_true, Bool.true_or, Bool.or_false, Bool.false_or, Bool.and_false, Bool.false_and, Int.natCast_nonneg, List.length_cons, List.length_nil, List.length_map, and_self, eq_self, List.take_zero, List.take_succ_cons, List.nil_append, List.cons_append, List.forall_mem_map, implies_true, Int.le_refl, List.toList_toArray, Int.toNat_zero, Int.ofNat_le, Int.ofNat_lt, Bool.not_true, Bool.not_false, bne_self_eq_false, not_false_eq_true, Nat.le_refl, Hv.beq_tf, Hv.beq_ft, Hv.range0, Hv.range1, Hv.range2, Hv.range3, List.forall_mem_cons, List.forall_mem_nil, forall_eq, List.mem_singleton, Option.isSome_some, Hv.elem_nil, Hv.ble_self, Hv.take_map_all, Hv.elem_cons, Hv.lk_nil, Hv.lk_cons, Hv.AV.view1, Hv.AV.viewR, Hv.fetch, Hv.fetchs, Hv.retC, Hv.HPostC, Hv.APostC, Hv.rdAt, Hv.kmatchA, Hv.ckIs, Hv.aindexA, Hv.eqFl, Hv.kmatch, Hv.veq, Hv.veqs, Hv.ashift, Hv.fmore, Hv.kfind, Hv.keyKindH, Hv.isVar, Hv.acutA, Nat.mul_one, Nat.one_mul, Nat.zero_mul, Nat.mul_zero, Hv.pks25, Hv.pks28, Hv.pks112, Hv.pks116, Hv.keys65, Hv.zeros3, Hv.zeros4, Hv.zeros5, Hv.zeros9, Hv.zeros22, Hv.zeros23, Hv.zeros25, Hv.zeros27, Hv.zeros28, Hv.zeros29, Hv.zeros32, Hv.zeros34, Hv.zeros35, Hv.zeros36, Hv.zeros39, Hv.zeros45, Hv.zeros47, Hv.zeros48, Hv.zeros50, Hv.zeros54, Hv.zeros55, Hv.zeros57, Hv.zeros58, Hv.zeros60, Hv.zeros62, Hv.zeros63, Hv.zeros65, Hv.zeros68, Hv.zeros69, Hv.zeros73, Hv.zeros75, Hv.zeros76, Hv.zeros79, Hv.zeros82, Hv.zeros87, Hv.zeros91, Hv.zeros100, Hv.zeros108, Hv.zeros112, Hv.zeros116, Hv.fszs39, Hv.fszs50, Hv.fszs57, Hv.fszs60, Hv.fszs65, Hv.eqs39, Hv.eqs50, Hv.sls22, Hv.sls23, Hv.sls27, Hv.sls32, Hv.sls34, Hv.sls35, Hv.sls45, Hv.sls48, Hv.szs3, Hv.szs4, Hv.szs5, Hv.szs9, Hv.szs22, Hv.szs23, Hv.szs25, Hv.szs27, Hv.szs28, Hv.szs29, Hv.szs32, Hv.szs34, Hv.szs35, Hv.szs36, Hv.szs39, Hv.szs45, Hv.szs47, Hv.szs48, Hv.szs50, Hv.szs54, Hv.szs55, Hv.szs57, Hv.szs58, Hv.szs60, Hv.szs62, Hv.szs63, Hv.szs65, Hv.szs68, Hv.szs69, Hv.szs73, Hv.szs75, Hv.szs76, Hv.szs79, Hv.szs82, Hv.szs87, Hv.szs91, Hv.szs100, Hv.szs108, Hv.szs112, Hv.szs116, Hv.fld39_0, Hv.fld39_1, Hv.fld39_2, Hv.fld50_0, Hv.fld50_1, Hv.fld50_2, Hv.fld50_3, Hv.fld50_4, Hv.fld57_0, Hv.fld57_1, Hv.fld57_2, Hv.fld60_0, Hv.fld60_1, Hv.fld60_2, Hv.fld65_0, Hv.fld65_1, Hv.ints3, Hv.ints5, Hv.ints29, Hv.ints36, Hv.ints87, Hv.ints91, Hv.ints100, Hv.ints108, Hv.strs9, Hv.ptrs25, Hv.ptrs28, Hv.ptrs112, Hv.ptrs116, Hv.bools4, Hv.nptr4, Hv.arrs63, Hv.byts45, Hv.maps54, Hv.maps55, Hv.maps58, Hv.maps62, Hv.maps73, Hv.narr0, Hv.nint0, Hv.nsls0, Hv.nstr0, Hv.nbyt0, Hv.narr3, Hv.nsls3, Hv.nstr3, Hv.nbyt3, Hv.narr4, Hv.nint4, Hv.nsls4, Hv.nstr4, Hv.nbyt4, Hv.narr5, Hv.nsls5, Hv.nstr5, Hv.nbyt5, Hv.narr9, Hv.nint9, Hv.nsls9, Hv.nbyt9, Hv.narr22, Hv.nint22, Hv.nstr22, Hv.nbyt22, Hv.narr23, Hv.nint23, Hv.nstr23, Hv.nbyt23, Hv.narr25, Hv.nint25, Hv.nsls25, Hv.nstr25, Hv.nbyt25, Hv.narr27, Hv.nint27, Hv.nstr27, Hv.nbyt27, Hv.narr28, Hv.nint28, Hv.nsls28, Hv.nstr28, Hv.nbyt28, Hv.narr29, Hv.nsls29, Hv.nstr29, Hv.nbyt29, Hv.narr30, Hv.nint30, Hv.nsls30, Hv.nstr30, Hv.nbyt30, Hv.narr32, Hv.nint32, Hv.nstr32, Hv.nbyt32, Hv.narr34, Hv.nint34, Hv.nstr34, Hv.nbyt34, Hv.narr35, Hv.nint35, Hv.nstr35, Hv.nbyt35, Hv.narr36, Hv.nsls36, Hv.nstr36, Hv.nbyt36, Hv.narr39, Hv.nint39, Hv.nsls39, Hv.nstr39, Hv.nbyt39, Hv.narr45, Hv.nint45, Hv.nstr45, Hv.narr47, Hv.nint47, Hv.nsls47, Hv.nstr47, Hv.nbyt47, Hv.narr48, Hv.nint48, Hv.nstr48, Hv.nbyt48, Hv.narr50, Hv.nint50, Hv.nsls50, Hv.nstr50, Hv.nbyt50, Hv.narr54, Hv.nint54, Hv.nsls54, Hv.nstr54, Hv.nbyt54, Hv.narr55, Hv.nint55, Hv.nsls55, Hv.nstr55, Hv.nbyt55, Hv.narr57, Hv.nint57, Hv.nsls57, Hv.nstr57, Hv.nbyt57, Hv.narr58, Hv.nint58, Hv.nsls58, Hv.nstr58, Hv.nbyt58, Hv.narr60, Hv.nint60, Hv.nsls60, Hv.nstr60, Hv.nbyt60, Hv.narr62, Hv.nint62, Hv.nsls62, Hv.nstr62, Hv.nbyt62, Hv.nint63, Hv.nsls63, Hv.nstr63, Hv.nbyt63, Hv.narr65, Hv.nint65, Hv.nsls65, Hv.nstr65, Hv.nbyt65, Hv.narr68, Hv.nint68, Hv.nsls68, Hv.nstr68, Hv.nbyt68, Hv.narr69, Hv.nint69, Hv.nsls69, Hv.nstr69, Hv.nbyt69, Hv.narr73, Hv.nint73, Hv.nsls73, Hv.nstr73, Hv.nbyt73, Hv.narr75, Hv.nint75, Hv.nsls75, Hv.nstr75, Hv.nbyt75, Hv.narr76, Hv.nint76, Hv.nsls76, Hv.nstr76, Hv.nbyt76, Hv.narr79, Hv.nint79, Hv.nsls79, Hv.nstr79, Hv.nbyt79, Hv.narr80, Hv.nint80, Hv.nsls80, Hv.nstr80, Hv.nbyt80, Hv.narr82, Hv.nint82, Hv.nsls82, Hv.nstr82, Hv.nbyt82, Hv.narr87, Hv.nsls87, Hv.nstr87, Hv.nbyt87, Hv.narr91, Hv.nsls91, Hv.nstr91, Hv.nbyt91, Hv.narr92, Hv.nint92, Hv.nsls92, Hv.nstr92, Hv.nbyt92, Hv.narr97, Hv.nint97, Hv.nsls97, Hv.nstr97, Hv.nbyt97, Hv.narr100, Hv.nsls100, Hv.nstr100, Hv.nbyt100, Hv.narr108, Hv.nsls108, Hv.nstr108, Hv.nbyt108, Hv.narr112, Hv.nint112, Hv.nsls112, Hv.nstr112, Hv.nbyt112, Hv.narr116, Hv.nint116, Hv.nsls116, Hv.nstr116, Hv.nbyt116, Hv.narr117, Hv.nint117, Hv.nsls117, Hv.nstr117, Hv.nbyt117, Nat.reduceBEq, Nat.reduceAdd, Nat.reduceEqDiff, reduceCtorEq, Nat.reduceLeDiff, Nat.reduceSub, Nat.reduceMul, Nat.reduceLT, Int.reduceEq, Int.reduceLT, Int.reduceLE, Int.reduceBEq, Int.reduceBNe, Int.reduceToNat, Int.reduceNeg, Int.reduceSub, Int.reduceAdd]
                refine ⟨trivial, trivial, ?_⟩
                rw [stopK_eq, Hv.ron_at]
                simp only [push_cast, Nat.reduceBEq, Nat.reduceAdd, Nat.reduceEqDiff, reduceCtorEq, Nat.reduceLeDiff, Nat.reduceSub, Nat.reduceMul, Nat.reduceLT, Int.reduceEq, Int.reduceLT, Int.reduceLE, Int.reduceBEq, Int.reduceBNe, Int.reduceToNat, Int.reduceNeg, Int.reduceSub, Int.reduceAdd]
                have hS7 := hS.put hta ⟨1, mv.key, mv.val⟩
                obtain ⟨tt, st⟩ := (⟨_, step_put hta ⟨1, mv.key, mv.val⟩⟩ : ∃ tt, StepD Da (Da.put k t ⟨1, mv.key, mv.val⟩) k tt)
                obtain ⟨Da7, hDa⟩ : ∃ D, Da.put k t ⟨1, mv.key, mv.val⟩ = D := ⟨_, rfl⟩
                obtain ⟨Db7, hDb⟩ : ∃ D, D5.put k t ⟨1, mv.key, mv.val⟩ = D := ⟨_, rfl⟩
                rw [hDa] at hT7 hS7 st
                rw [hDb] at hT7 hS7
                clear hDa hDb
                obtain ⟨top7, hp, hS8, htop7⟩ : ∃ z, ((9, AV.lit (.int .i64 top)) : Nat × AV) = (9, .lit (.int .i64 z)) ∧ Same Da7 Db7 z ∧ z ≤ 300 * ((i + 1 : Nat) : Int) := ⟨_, rfl, hS7, htop1⟩
                rw [hp]
                clear hp hS7
                obtain ⟨v19, hp⟩ : ∃ v, ((19, AV.dead) : Nat × AV) = (19, v) := ⟨_, rfl⟩
                rw [hp]
                clear hp
                obtain ⟨v97, hp⟩ : ∃ v, ((97, AV.lit (.int .i64 2)) : Nat × AV) = (97, v) := ⟨_, rfl⟩
                rw [hp]
                clear hp
                obtain ⟨v98, hp⟩ : ∃ v, ((98, AV.lit (.bool true)) : Nat × AV) = (98, v) := ⟨_, rfl⟩
                rw [hp]
                clear hp
                obtain ⟨v118, hp⟩ : ∃ v, ((118, AV.dead) : Nat × AV) = (118, v) := ⟨_, rfl⟩
                rw [hp]
                clear hp
                obtain ⟨v134, hp⟩ : ∃ v, ((134, AV.dead) : Nat × AV) = (134, v) := ⟨_, rfl⟩
                rw [hp]
                clear hp
                obtain ⟨v160, hp⟩ : ∃ v, ((160, AV.dead) : Nat × AV) = (160, v) := ⟨_, rfl⟩
                rw [hp]
                clear hp
                revert hX7
                revert hY7
                revert hT7
                revert hS8
                revert htop7
                revert st
                revert tt
                revert Da7
                revert Db7
                revert Sa6
                revert Sb7
                revert n7
                revert H7
                revert ev
                revert top7
                revert v19
                revert v97
                revert v98
                revert v118
                revert v134
                revert v160
                exact meet
              · by_cases hc3 : mv.call = 3
                · simp only [push_cast, Nat.reduceBEq, Nat.reduceAdd, Nat.reduceEqDiff, reduceCtorEq, Nat.reduceLeDiff, Nat.reduceSub, Nat.reduceMul, Nat.reduceLT, Int.reduceEq, Int.reduceLT, Int.reduceLE, Int.reduceBEq, Int.reduceBNe, Int.reduceToNat, Int.reduceNeg, Int.reduceSub, Int.reduceAdd, hc3, hVa, hcb1, hm0', hmb, hum, hk1, hk2, hXa, hYa, hPa, hPb, hxr, hyr, htk, htk2, hbm, hk', List.length_map, ptrI]
                  refine callHD (del_c hT.ha hxa hta mv.key) ?_
                  rintro r H6 n6 hP
                  obtain ⟨rfl, Sa6, hT6, hn6, k6⟩ := hT.left hP
                  have hX6 := hX.keep hn6 k6
                  have hY6 := hY.keep hn6 k6
                  have hV6 := hVo.keep hn6 k6
                  have hYb := hY6.at
                  have hVb := hV6.at
                  rw [Hv.contD_at]
                  refine ⟨by simp only [push_cast, Nat.reduceBEq, Nat.reduceAdd, Nat.reduceEqDiff, reduceCtorEq, Nat.reduceLeDiff, Nat.reduceSub, Nat.reduceMul, Nat.reduceLT, Int.reduceEq, Int.reduceLT, Int.reduceLE, Int.reduceBEq, Int.reduceBNe, Int.reduceToNat, Int.reduceNeg, Int.reduceSub, Int.reduceAdd, hYb, hVb, hPb, hyr, htk2, hbm, hk', List.length_map, ptrI], ?_⟩
                  simp only [push_cast, Nat.reduceBEq, Nat.reduceAdd, Nat.reduceEqDiff, reduceCtorEq, Nat.reduceLeDiff, Nat.reduceSub, Nat.reduceMul, Nat.reduceLT, Int.reduceEq, Int.reduceLT, Int.reduceLE, Int.reduceBEq, Int.reduceBNe, Int.reduceToNat, Int.reduceNeg, Int.reduceSub, Int.reduceAdd, hYb, hVb, hPb, hyr, htk2, hbm, hk', List.length_map, ptrI]
                  refine callHD (del_c hT6.hb hxb htb mv.key) ?_
                  rintro r H7 n7 hP
                  obtain ⟨rfl, Sb7, hT7, hn7, k7⟩ := hT6.right hP
                  clear hP
                  have hX7 := hX6.keep hn7 k7
                  have hY7 := hY6.keep hn7 k7
                  clear hn7 k7 hT6 hX6 hY6 hYb hVb hV6 k6 hn6
                  rw [Hv.contD_at]
                  refine ⟨by simp only [push_cast, Nat.reduceBEq, Nat.reduceAdd, Nat.reduceEqDiff, reduceCtorEq, Nat.reduceLeDiff, Nat.reduceSub, Nat.reduceMul, Nat.reduceLT, Int.reduceEq, Int.reduceLT, Int.reduceLE, Int.reduceBEq, Int.reduceBNe, Int.reduceToNat, Int.reduceNeg, Int.reduceSub, Int.reduceAdd], ?_⟩

                  rw [← stopK_eq (Hv.ron _ _)]
                  simp only [Hv.rk_nil, Hv.rk_cons, Hv.stepK, Hv.ron_at, Hv.cwp_draw, Hv.rkD_nil, Hv.rkD_cons, Hv.effK, Hv.contD_at, Hv.pinsOk, Hv.annOk, Hv.newOf, Hv.dstD, Hv.isR, Hv.gdval, Hv.dval, Hv.cwp_skip, Hv.cwp_region, Hv.cwp_seq, Hv.cwp_block, Hv.cwp_cond, Hv.cwp_loop, Hv.cwp_exit, Hv.cwp_ret, Hv.cwp_label, Hv.den_nil, Hv.den_sq_nrm, Hv.den_sq_ret, Hv.den_sq_ext, Hv.den_bl_nrm, Hv.den_bl_ret, Hv.den_bl_ext, Hv.den_lp_nrm, Hv.den_lp_ret, Hv.den_lp_ext, Hv.gsem, Hv.AV.said?, Hv.AV.skip, Hv.fop, Hv.feff, Hv.fapp, Hv.acutM, Hv.fval, Hv.callee?, Hv.AS.eval, Hv.AS.get, Hv.AS.set, Hv.AS.put, Hv.AS.keep, Hv.AS.fresh, Hv.AS.chg, Hv.readA, Hv.aidx, Hv.alook, Hv.aentry, Hv.keyKind, Hv.lkp, Hv.upd_at, Hv.AV.view, Hv.AV.bool?, Hv.AV.int?, Hv.AV.lit?, Hv.AV.its?, Hv.AV.num?, Hv.isNilV, Hv.isNilO, Hv.apick, Hv.alen, Hv.acut, Hv.acutL, Hv.acutS, Hv.acutR, Hv.onum, Hv.abin, Hv.isShift, Hv.aint, Hv.aun, Hv.astr, Hv.anews, Hv.fits, Hv.piece, Hv.headLen, Hv.nonNil, Hv.litArgs, Hv.ptrEq, Hv.boolEq, Hv.aptr, Hv.binv, Hv.aeq, Hv.AV.aggc?, Hv.lits, Hv.AV.cells, Hv.AV.isOne, Hv.setR, Hv.abuild, Hv.bsItems, Hv.szN, Hv.zeroA, Hv.beginF, Hv.HPost, Hv.APost, Hv.rets, Hv.retv, Hv.retA, Hv.sealH, Hv.sealO, Value.oneCell', Value.cells, List.map_cons, List.map_nil, List.drop_zero, List.drop_succ_cons, List.getElem?_cons_zero, List.getElem?_cons_succ, List.getElem?_map, Option.map_some, Option.map_none, Option.bind_some, Option.bind_none, cond_true, cond_false, decide_true, decide_false, Nat.add_zero, Nat.zero_add, and_true, beq_self_eq_true, if_true, if_false, ite_true, ite_false, Int.toNat_natCast, Hv.beqE, List.all_cons, List.all_nil, Bool.and_true, Bool.true_and, Bool.or_true, Bool.true_or, Bool.or_false, Bool.false_or, Bool.and_false, Bool.false_and, Int.natCast_nonneg, List.length_cons, List.length_nil, List.length_map, and_self, eq_self, List.take_zero, List.take_succ_cons, List.nil_append, List.cons_append, List.forall_mem_map, implies_true, Int.le_refl, List.toList_toArray, Int.toNat_zero, Int.ofNat_le, Int.ofNat_lt, Bool.not_true, Bool.not_false, bne_self_eq_false, not_false_eq_true, Nat.le_refl, Hv.beq_tf, Hv.beq_ft, Hv.range0, Hv.range1, Hv.range2, Hv.range3, List.forall_mem_cons, List.forall_mem_nil, forall_eq, List.mem_singleton, Option.isSome_some, Hv.elem_nil, Hv.ble_self, Hv.take_map_all, Hv.elem_cons, Hv.lk_nil, Hv.lk_cons, Hv.AV.view1, Hv.AV.viewR, Hv.fetch, Hv.fetchs, Hv.retC, Hv.HPostC, Hv.APostC, Hv.rdAt, Hv.kmatchA, Hv.ckIs, Hv.aindexA, Hv.eqFl, Hv.kmatch, Hv.veq, Hv.veqs, Hv.ashift, Hv.fmore, Hv.kfind, Hv.keyKindH, Hv.isVar, Hv.acutA, Nat.mul_one, Nat.one_mul, Nat.zero_mul, Nat.mul_zero, Hv.pks25, Hv.pks28, Hv.pks112, Hv.pks116, Hv.keys65, Hv.zeros3, Hv.zeros4, Hv.zeros5, Hv.zeros9, Hv.zeros22, Hv.zeros23, Hv.zeros25, Hv.zeros27, Hv.zeros28, Hv.zeros29, Hv.zeros32, Hv.zeros34, Hv.zeros35, Hv.zeros36, Hv.zeros39, Hv.zeros45, Hv.zeros47, Hv.zeros48, Hv.zeros50, Hv.zeros54, Hv.zeros55, Hv.zeros57, Hv.zeros58, Hv.zeros60, Hv.zeros62, Hv.zeros63, Hv.zeros65, Hv.zeros68, Hv.zeros69, Hv.zeros73, Hv.zeros75, Hv.zeros76, Hv.zeros79, Hv.zeros82, Hv.zeros87, Hv.zeros91, Hv.zeros100, Hv.zeros108, Hv.zeros112, Hv.zeros116, Hv.fszs39, Hv.fszs50, Hv.fszs57, Hv.fszs60, Hv.fszs65, Hv.eqs39, Hv.eqs50, Hv.sls22, Hv.sls23, Hv.sls27, Hv.sls32, Hv.sls34, Hv.sls35, Hv.sls45, Hv.sls48, Hv.szs3, Hv.szs4, Hv.szs5, Hv.szs9, Hv.szs22, Hv.szs23, Hv.szs25, Hv.szs27, Hv.szs28, Hv.szs29, Hv.szs32, Hv.szs34, Hv.szs35, Hv.szs36, Hv.szs39, Hv.szs45, Hv.szs47, Hv.szs48, Hv.szs50, Hv.szs54, Hv.szs55, Hv.szs57, Hv.szs58, Hv.szs60, Hv.szs62, Hv.szs63, Hv.szs65, Hv.szs68, Hv.szs69, Hv.szs73, Hv.szs75, Hv.szs76, Hv.szs79, Hv.szs82, Hv.szs87, Hv.szs91, Hv.szs100, Hv.szs108, Hv.szs112, Hv.szs116, Hv.fld39_0, Hv.fld39_1, Hv.fld39_2, Hv.fld50_0, Hv.fld50_1, Hv.fld50_2, Hv.fld50_3, Hv.fld50_4, Hv.fld57_0, Hv.fld57_1, Hv.fld57_2, Hv.fld60_0, Hv.fld60_1, Hv.fld60_2, Hv.fld65_0, Hv.fld65_1, Hv.ints3, Hv.ints5, Hv.ints29, Hv.ints36, Hv.ints87, Hv.ints91, Hv.ints100, Hv.ints108, Hv.strs9, Hv.ptrs25, Hv.ptrs28, Hv.ptrs112, Hv.ptrs116, Hv.bools4, Hv.nptr4, Hv.arrs63, Hv.byts45, Hv.maps54, Hv.maps55, Hv.maps58, Hv.maps62, Hv.maps73, Hv.narr0, Hv.nint0, Hv.nsls0, Hv.nstr0, Hv.nbyt0, Hv.narr3, Hv.nsls3, Hv.nstr3, Hv.nbyt3, Hv.narr4, Hv.nint4, Hv.nsls4, Hv.nstr4, Hv.nbyt4, Hv.narr5, Hv.nsls5, Hv.nstr5, Hv.nbyt5, Hv.narr9, Hv.nint9, Hv.nsls9, Hv.nbyt9, Hv.narr22, Hv.nint22, Hv.nstr22, Hv.nbyt22, Hv.narr23, Hv.nint23, Hv.nstr23, Hv.nbyt23, Hv.narr25, Hv.nint25, Hv.nsls25, Hv.nstr25, Hv.nbyt25, Hv.narr27, Hv.nint27, Hv.nstr27, Hv.nbyt27, Hv.narr28, Hv.nint28, Hv.nsls28, Hv.nstr28, Hv.nbyt28, Hv.narr29, Hv.nsls29, Hv.nstr29, Hv.nbyt29, Hv.narr30, Hv.nint30, Hv.nsls30, Hv.nstr30, Hv.nbyt30, Hv.narr32, Hv.nint32, Hv.nstr32, Hv.nbyt32, Hv.narr34, Hv.nint34, Hv.nstr34, Hv.nbyt34, Hv.narr35, Hv.nint35, Hv.nstr35, Hv.nbyt35, Hv.narr36, Hv.nsls36, Hv.nstr36, Hv.nbyt36, Hv.narr39, Hv.nint39, Hv.nsls39, Hv.nstr39, Hv.nbyt39, Hv.narr45, Hv.nint45, Hv.nstr45, Hv.narr47, Hv.nint47, Hv.nsls47, Hv.nstr47, Hv.nbyt47, Hv.narr48, Hv.nint48, Hv.nstr48, Hv.nbyt48, Hv.narr50, Hv.nint50, Hv.nsls50, Hv.nstr50, Hv.nbyt50, Hv.narr54, Hv.nint54, Hv.nsls54, Hv.nstr54, Hv.nbyt54, Hv.narr55, Hv.nint55, Hv.nsls55, Hv.nstr55, Hv.nbyt55, Hv.narr57, Hv.nint57, Hv.nsls57, Hv.nstr57, Hv.nbyt57, Hv.narr58, Hv.nint58, Hv.nsls58, Hv.nstr58, Hv.nbyt58, Hv.narr60, Hv.nint60, Hv.nsls60, Hv.nstr60, Hv.nbyt60, Hv.narr62, Hv.nint62, Hv.nsls62, Hv.nstr62, Hv.nbyt62, Hv.nint63, Hv.nsls63, Hv.nstr63, Hv.nbyt63, Hv.narr65, Hv.nint65, Hv.nsls65, Hv.nstr65, Hv.nbyt65, Hv.narr68, Hv.nint68, Hv.nsls68, Hv.nstr68, Hv.nbyt68, Hv.narr69, Hv.nint69, Hv.nsls69, Hv.nstr69, Hv.nbyt69, Hv.narr73, Hv.nint73, Hv.nsls73, Hv.nstr73, Hv.nbyt73, Hv.narr75, Hv.nint75, Hv.nsls75, Hv.nstr75, Hv.nbyt75, Hv.narr76, Hv.nint76, Hv.nsls76, Hv.nstr76, Hv.nbyt76, Hv.narr79, Hv.nint79, Hv.nsls79, Hv.nstr79, Hv.nbyt79, Hv.narr80, Hv.nint80, Hv.nsls80, Hv.nstr80, Hv.nbyt80, Hv.narr82, Hv.nint82, Hv.nsls82, Hv.nstr82, Hv.nbyt82, Hv.narr87, Hv.nsls87, Hv.nstr87, Hv.nbyt87, Hv.narr91, Hv.nsls91, Hv.nstr91, Hv.nbyt91, Hv.narr92, Hv.nint92, Hv.nsls92, Hv.nstr92, Hv.nbyt92, Hv.narr97, Hv.nint97, Hv.nsls97, Hv.nstr97, Hv.nbyt97, Hv.narr100, Hv.nsls100, Hv.nstr100, Hv.nbyt100, Hv.narr108, Hv.nsls108, Hv.nstr108, Hv.nbyt108, Hv.narr112, Hv.nint112, Hv.nsls112, Hv.nstr112, Hv.nbyt112, Hv.narr116, Hv.nint116, Hv.nsls116, Hv.nstr116, Hv.nbyt116, Hv.narr117, Hv.nint117, Hv.nsls117, Hv.nstr117, Hv.nbyt117, Nat.reduceBEq, Nat.reduceAdd, Nat.reduceEqDiff, reduceCtorEq, Nat.reduceLeDiff, Nat.reduceSub, Nat.reduceMul, Nat.reduceLT, Int.reduceEq, Int.reduceLT, Int.reduceLE, Int.reduceBEq, Int.reduceBNe, Int.reduceToNat, Int.reduceNeg, Int.reduceSub, Int.reduceAdd]
                  refine ⟨trivial, trivial, ?_⟩
                  rw [stopK_eq, Hv.ron_at]
                  simp only [push_cast, Nat.reduceBEq, Nat.reduceAdd, Nat.reduceEqDiff, reduceCtorEq, Nat.reduceLeDiff, Nat.reduceSub, Nat.reduceMul, Nat.reduceLT, Int.reduceEq, Int.reduceLT, Int.reduceLE, Int.reduceBEq, Int.reduceBNe, Int.reduceToNat, Int.reduceNeg, Int.reduceSub, Int.reduceAdd]
                  obtain ⟨tt, st⟩ := (⟨_, step_put hta ⟨0, mv.key, ⟨#[]⟩⟩⟩ : ∃ tt, StepD Da (Da.put k t ⟨0, mv.key, ⟨#[]⟩⟩) k tt)
                  exact meet (.dead) (.dead) (.lit (.bool true)) (.lit (.bool false)) (.lit (.int .i64 3)) (.dead) top (chErr t ⟨0, mv.key, ⟨#[]⟩⟩) H7 n7 Sb7 Sa6 (D5.put k t ⟨0, mv.key, ⟨#[]⟩⟩) (Da.put k t ⟨0, mv.key, ⟨#[]⟩⟩) tt st htop1 (hS.put hta ⟨0, mv.key, ⟨#[]⟩⟩) hT7 hY7 hX7
                · by_cases hc4 : mv.call = 4
                  · simp only [push_cast, Nat.reduceBEq, Nat.reduceAdd, Nat.reduceEqDiff, reduceCtorEq, Nat.reduceLeDiff, Nat.reduceSub, Nat.reduceMul, Nat.reduceLT, Int.reduceEq, Int.reduceLT, Int.reduceLE, Int.reduceBEq, Int.reduceBNe, Int.reduceToNat, Int.reduceNeg, Int.reduceSub, Int.reduceAdd, hc4, hwt1, hVa, hcb1, hm0', hmb, hum, hk1, hk2, hXa, hYa, hPa, hPb, hxr, hyr, htk, htk2, hbm, hk', List.length_map, ptrI]
                    refine callH (ops_c hT.ha hxa hta) ?_
                    rintro r H6 n6 ⟨g6, rfl, hn6, hs6, _, _, k6⟩
                    have hT' := hT.same hn6 k6
                    have hX' := hX.same hn6 k6
                    have hY' := hY.same hn6 k6
                    have hV' := hVo.same hn6 k6
                    have hXd := hX'.at
                    have hYd := hY'.at
                    have hVd := hV'.at
                    simp only [push_cast, Nat.reduceBEq, Nat.reduceAdd, Nat.reduceEqDiff, reduceCtorEq, Nat.reduceLeDiff, Nat.reduceSub, Nat.reduceMul, Nat.reduceLT, Int.reduceEq, Int.reduceLT, Int.reduceLE, Int.reduceBEq, Int.reduceBNe, Int.reduceToNat, Int.reduceNeg, Int.reduceSub, Int.reduceAdd, hwt2, hXd, hYd, hVd, hPa, hPb, hxr, hyr, htk, htk2, hbm, hk', List.length_map, ptrI]
                    refine callHD (commit_c hT'.ha hxa hta (top + 1) hseq) ?_
                    rintro r H66 n66 hP
                    obtain ⟨rfl, Sa6, hT6, hn6, k6⟩ := hT'.left hP
                    have hX6 := hX'.keep hn6 k6
                    have hY6 := hY'.keep hn6 k6
                    have hV6 := hV'.keep hn6 k6
                    have hYb := hY6.at
                    have hVb := hV6.at
                    rw [Hv.contD_at]
                    refine ⟨by simp only [push_cast, Nat.reduceBEq, Nat.reduceAdd, Nat.reduceEqDiff, reduceCtorEq, Nat.reduceLeDiff, Nat.reduceSub, Nat.reduceMul, Nat.reduceLT, Int.reduceEq, Int.reduceLT, Int.reduceLE, Int.reduceBEq, Int.reduceBNe, Int.reduceToNat, Int.reduceNeg, Int.reduceSub, Int.reduceAdd, hYb, hVb, hPb, hyr, htk2, hbm, hk', List.length_map, ptrI], ?_⟩
                    simp only [push_cast, Nat.reduceBEq, Nat.reduceAdd, Nat.reduceEqDiff, reduceCtorEq, Nat.reduceLeDiff, Nat.reduceSub, Nat.reduceMul, Nat.reduceLT, Int.reduceEq, Int.reduceLT, Int.reduceLE, Int.reduceBEq, Int.reduceBNe, Int.reduceToNat, Int.reduceNeg, Int.reduceSub, Int.reduceAdd, hYb, hVb, hPb, hyr, htk2, hbm, hk', List.length_map, ptrI]
                    refine callHD (commit_c hT6.hb hxb htb (top + 1) hseq) ?_
                    rintro r H7 n7 hP
                    obtain ⟨rfl, Sb7, hT7, hn7, k7⟩ := hT6.right hP
                    clear hP
                    have hX7 := hX6.keep hn7 k7
                    have hY7 := hY6.keep hn7 k7
                    clear hn7 k7 hT6 hX6 hY6 hYb hVb hV6 k6 hn6
                    rw [Hv.contD_at]
                    refine ⟨by simp only [push_cast, Nat.reduceBEq, Nat.reduceAdd, Nat.reduceEqDiff, reduceCtorEq, Nat.reduceLeDiff, Nat.reduceSub, Nat.reduceMul, Nat.reduceLT, Int.reduceEq, Int.reduceLT, Int.reduceLE, Int.reduceBEq, Int.reduceBNe, Int.reduceToNat, Int.reduceNeg, Int.reduceSub, Int.reduceAdd], ?_⟩
                    rw [hce]
                    rw [← stopK_eq (Hv.ron _ _)]
                    simp only [Hv.rk_nil, Hv.rk_cons, Hv.stepK, Hv.ron_at, Hv.cwp_draw, Hv.rkD_nil, Hv.rkD_cons, Hv.effK, Hv.contD_at, Hv.pinsOk, Hv.annOk, Hv.newOf, Hv.dstD, Hv.isR, Hv.gdval, Hv.dval, Hv.cwp_skip, Hv.cwp_region, Hv.cwp_seq, Hv.cwp_block, Hv.cwp_cond, Hv.cwp_loop, Hv.cwp_exit, Hv.cwp_ret, Hv.cwp_label, Hv.den_nil, Hv.den_sq_nrm, Hv.den_sq_ret, Hv.den_sq_ext, Hv.den_bl_nrm, Hv.den_bl_ret, Hv.den_bl_ext, Hv.den_lp_nrm, Hv.den_lp_ret, Hv.den_lp_ext, Hv.gsem, Hv.AV.said?, Hv.AV.skip, Hv.fop, Hv.feff, Hv.fapp, Hv.acutM, Hv.fval, Hv.callee?, Hv.AS.eval, Hv.AS.get, Hv.AS.set, Hv.AS.put, Hv.AS.keep, Hv.AS.fresh, Hv.AS.chg, Hv.readA, Hv.aidx, Hv.alook, Hv.aentry, Hv.keyKind, Hv.lkp, Hv.upd_at, Hv.AV.view, Hv.AV.bool?, Hv.AV.int?, Hv.AV.lit?, Hv.AV.its?, Hv.AV.num?, Hv.isNilV, Hv.isNilO, Hv.apick, Hv.alen, Hv.acut, Hv.acutL, Hv.acutS, Hv.acutR, Hv.onum, Hv.abin, Hv.isShift, Hv.aint, Hv.aun, Hv.astr, Hv.anews, Hv.fits, Hv.piece, Hv.headLen, Hv.nonNil, Hv.litArgs, Hv.ptrEq, Hv.boolEq, Hv.aptr, Hv.binv, Hv.aeq, Hv.AV.aggc?, Hv.lits, Hv.AV.cells, Hv.AV.isOne, Hv.setR, Hv.abuild, Hv.bsItems, Hv.szN, Hv.zeroA, Hv.beginF, Hv.HPost, Hv.APost, Hv.rets, Hv.retv, Hv.retA, Hv.sealH, Hv.sealO, Value.oneCell', Value.cells, List.map_cons, List.map_nil, List.drop_zero, List.drop_succ_cons, List.getElem?_cons_zero, List.getElem?_cons_succ, List.getElem?_map, Option.map_some, Option.map_none, Option.bind_some, Option.bind_none, cond_true, cond_false, decide_true, decide_false, Nat.add_zero, Nat.zero_add, and_true, beq_self_eq_true, if_true, if_false, ite_true, ite_false, Int.toNat_natCast, Hv.beqE, List.all_cons, List.all_nil, Bool.and_true, Bool.true_and, Bool.or_true, Bool.true_or, Bool.or_false, Bool.false_or, Bool.and_false, Bool.false_and, Int.natCast_nonneg, List.length_cons, List.length_nil, List.length_map, and_self, eq_self, List.take_zero, List.take_succ_cons, List.nil_append, List.cons_append, List.forall_mem_map, implies_true, Int.le_refl, List.toList_toArray, Int.toNat_zero, Int.ofNat_le, Int.ofNat_lt, Bool.not_true, Bool.not_false, bne_self_eq_false, not_false_eq_true, Nat.le_refl, Hv.beq_tf, Hv.beq_ft, Hv.range0, Hv.range1, Hv.range2, Hv.range3, List.forall_mem_cons, List.forall_mem_nil, forall_eq, List.mem_singleton, Option.isSome_some, Hv.elem_nil, Hv.ble_self, Hv.take_map_all, Hv.elem_cons, Hv.lk_nil, Hv.lk_cons, Hv.AV.view1, Hv.AV.viewR, Hv.fetch, Hv.fetchs, Hv.retC, Hv.HPostC, Hv.APostC, Hv.rdAt, Hv.kmatchA, Hv.ckIs, Hv.aindexA, Hv.eqFl, Hv.kmatch, Hv.veq, Hv.veqs, Hv.ashift, Hv.fmore, Hv.kfind, Hv.keyKindH, Hv.isVar, Hv.acutA, Nat.mul_one, Nat.one_mul, Nat.zero_mul, Nat.mul_zero, Hv.pks25, Hv.pks28, Hv.pks112, Hv.pks116, Hv.keys65, Hv.zeros3, Hv.zeros4, Hv.zeros5, Hv.zeros9, Hv.zeros22, Hv.zeros23, Hv.zeros25, Hv.zeros27, Hv.zeros28, Hv.zeros29, Hv.zeros32, Hv.zeros34, Hv.zeros35, Hv.zeros36, Hv.zeros39, Hv.zeros45, Hv.zeros47, Hv.zeros48, Hv.zeros50, Hv.zeros54, Hv.zeros55, Hv.zeros57, Hv.zeros58, Hv.zeros60, Hv.zeros62, Hv.zeros63, Hv.zeros65, Hv.zeros68, Hv.zeros69, Hv.zeros73, Hv.zeros75, Hv.zeros76, Hv.zeros79, Hv.zeros82, Hv.zeros87, Hv.zeros91, Hv.zeros100, Hv.zeros108, Hv.zeros112, Hv.zeros116, Hv.fszs39, Hv.fszs50, Hv.fszs57, Hv.fszs60, Hv.fszs65, Hv.eqs39, Hv.eqs50, Hv.sls22, Hv.sls23, Hv.sls27, Hv.sls32, Hv.sls34, Hv.sls35, Hv.sls45, Hv.sls48, Hv.szs3, Hv.szs4, Hv.szs5, Hv.szs9, Hv.szs22, Hv.szs23, Hv.szs25, Hv.szs27, Hv.szs28, Hv.szs29, Hv.szs32, Hv.szs34, Hv.szs35, Hv.szs36, Hv.szs39, Hv.szs45, Hv.szs47, Hv.szs48, Hv.szs50, Hv.szs54, Hv.szs55, Hv.szs57, Hv.szs58, Hv.szs60, Hv.szs62, Hv.szs63, Hv.szs65, Hv.szs68, Hv.szs69, Hv.szs73, Hv.szs75, Hv.szs76, Hv.szs79, Hv.szs82, Hv.szs87, Hv.szs91, Hv.szs100, Hv.szs108, Hv.szs112, Hv.szs116, Hv.fld39_0, Hv.fld39_1, Hv.fld39_2, Hv.fld50_0, Hv.fld50_1, Hv.fld50_2, Hv.fld50_3, Hv.fld50_4, Hv.fld57_0, Hv.fld57_1, Hv.fld57_2, Hv.fld60_0, Hv.fld60_1, Hv.fld60_2, Hv.fld65_0, Hv.fld65_1, Hv.ints3, Hv.ints5, Hv.ints29, Hv.ints36, Hv.ints87, Hv.ints91, Hv.ints100, Hv.ints108, Hv.strs9, Hv.ptrs25, Hv.ptrs28, Hv.ptrs112, Hv.ptrs116, Hv.bools4, Hv.nptr4, Hv.arrs63, Hv.byts45, Hv.maps54, Hv.maps55, Hv.maps58, Hv.maps62, Hv.maps73, Hv.narr0, Hv.nint0, Hv.nsls0, Hv.nstr0, Hv.nbyt0, Hv.narr3, Hv.nsls3, Hv.nstr3, Hv.nbyt3, Hv.narr4, Hv.nint4, Hv.nsls4, Hv.nstr4, Hv.nbyt4, Hv.narr5, Hv.nsls5, Hv.nstr5, Hv.nbyt5, Hv.narr9, Hv.nint9, Hv.nsls9, Hv.nbyt9, Hv.narr22, Hv.nint22, Hv.nstr22, Hv.nbyt22, Hv.narr23, Hv.nint23, Hv.nstr23, Hv.nbyt23, Hv.narr25, Hv.nint25, Hv.nsls25, Hv.nstr25, Hv.nbyt25, Hv.narr27, Hv.nint27, Hv.nstr27, Hv.nbyt27, Hv.narr28, Hv.nint28, Hv.nsls28, Hv.nstr28, Hv.nbyt28, Hv.narr29, Hv.nsls29, Hv.nstr29, Hv.nbyt29, Hv.narr30, Hv.nint30, Hv.nsls30, Hv.nstr30, Hv.nbyt30, Hv.narr32, Hv.nint32, Hv.nstr32, Hv.nbyt32, Hv.narr34, Hv.nint34, Hv.nstr34, Hv.nbyt34, Hv.narr35, Hv.nint35, Hv.nstr35, Hv.nbyt35, Hv.narr36, Hv.nsls36, Hv.nstr36, Hv.nbyt36, Hv.narr39, Hv.nint39, Hv.nsls39, Hv.nstr39, Hv.nbyt39, Hv.narr45, Hv.nint45, Hv.nstr45, Hv.narr47, Hv.nint47, Hv.nsls47, Hv.nstr47, Hv.nbyt47, Hv.narr48, Hv.nint48, Hv.nstr48, Hv.nbyt48, Hv.narr50, Hv.nint50, Hv.nsls50, Hv.nstr50, Hv.nbyt50, Hv.narr54, Hv.nint54, Hv.nsls54, Hv.nstr54, Hv.nbyt54, Hv.narr55, Hv.nint55, Hv.nsls55, Hv.nstr55, Hv.nbyt55, Hv.narr57, Hv.nint57, Hv.nsls57, Hv.nstr57, Hv.nbyt57, Hv.narr58, Hv.nint58, Hv.nsls58, Hv.nstr58, Hv.nbyt58, Hv.narr60, Hv.nint60, Hv.nsls60, Hv.nstr60, Hv.nbyt60, Hv.narr62, Hv.nint62, Hv.nsls62, Hv.nstr62, Hv.nbyt62, Hv.nint63, Hv.nsls63, Hv.nstr63, Hv.nbyt63, Hv.narr65, Hv.nint65, Hv.nsls65, Hv.nstr65, Hv.nbyt65, Hv.narr68, Hv.nint68, Hv.nsls68, Hv.nstr68, Hv.nbyt68, Hv.narr69, Hv.nint69, Hv.nsls69, Hv.nstr69, Hv.nbyt69, Hv.narr73, Hv.nint73, Hv.nsls73, Hv.nstr73, Hv.nbyt73, Hv.narr75, Hv.nint75, Hv.nsls75, Hv.nstr75, Hv.nbyt75, Hv.narr76, Hv.nint76, Hv.nsls76, Hv.nstr76, Hv.nbyt76, Hv.narr79, Hv.nint79, Hv.nsls79, Hv.nstr79, Hv.nbyt79, Hv.narr80, Hv.nint80, Hv.nsls80, Hv.nstr80, Hv.nbyt80, Hv.narr82, Hv.nint82, Hv.nsls82, Hv.nstr82, Hv.nbyt82, Hv.narr87, Hv.nsls87, Hv.nstr87, Hv.nbyt87, Hv.narr91, Hv.nsls91, Hv.nstr91, Hv.nbyt91, Hv.narr92, Hv.nint92, Hv.nsls92, Hv.nstr92, Hv.nbyt92, Hv.narr97, Hv.nint97, Hv.nsls97, Hv.nstr97, Hv.nbyt97, Hv.narr100, Hv.nsls100, Hv.nstr100, Hv.nbyt100, Hv.narr108, Hv.nsls108, Hv.nstr108, Hv.nbyt108, Hv.narr112, Hv.nint112, Hv.nsls112, Hv.nstr112, Hv.nbyt112, Hv.narr116, Hv.nint116, Hv.nsls116, Hv.nstr116, Hv.nbyt116, Hv.narr117, Hv.nint117, Hv.nsls117, Hv.nstr117, Hv.nbyt117, Nat.reduceBEq, Nat.reduceAdd, Nat.reduceEqDiff, reduceCtorEq, Nat.reduceLeDiff, Nat.reduceSub, Nat.reduceMul, Nat.reduceLT, Int.reduceEq, Int.reduceLT, Int.reduceLE, Int.reduceBEq, Int.reduceBNe, Int.reduceToNat, Int.reduceNeg, Int.reduceSub, Int.reduceAdd]
                    refine ⟨trivial, trivial, ?_⟩
                    rw [stopK_eq, Hv.ron_at]
                    simp only [push_cast, Nat.reduceBEq, Nat.reduceAdd, Nat.reduceEqDiff, reduceCtorEq, Nat.reduceLeDiff, Nat.reduceSub, Nat.reduceMul, Nat.reduceLT, Int.reduceEq, Int.reduceLT, Int.reduceLE, Int.reduceBEq, Int.reduceBNe, Int.reduceToNat, Int.reduceNeg, Int.reduceSub, Int.reduceAdd]
                    obtain ⟨tt, st⟩ := step_com hta (top + 1)
                    exact meet (.dead) (.lit (.bool true)) (.lit (.bool false)) (.lit (.bool false)) (.lit (.int .i64 4)) (.lit (.int .i64 (top + 1))) (top + 1 + ((opsOf t).length : Int)) (Da.comErr t (top + 1)) H7 n7 Sb7 Sa6 (D5.com k t (top + 1)) (Da.com k t (top + 1)) tt st htop2 (hS.com hta) hT7 hY7 hX7
                  · by_cases hc5 : mv.call = 5
                    · simp only [push_cast, Nat.reduceBEq, Nat.reduceAdd, Nat.reduceEqDiff, reduceCtorEq, Nat.reduceLeDiff, Nat.reduceSub, Nat.reduceMul, Nat.reduceLT, Int.reduceEq, Int.reduceLT, Int.reduceLE, Int.reduceBEq, Int.reduceBNe, Int.reduceToNat, Int.reduceNeg, Int.reduceSub, Int.reduceAdd, hc5, hVa, hcb1, hm0', hmb, hum, hk1, hk2, hXa, hYa, hPa, hPb, hxr, hyr, htk, htk2, hbm, hk', List.length_map, ptrI]
                      refine callHD (abt_c hT.ha hxa hta) ?_
                      rintro r H6 n6 hP
                      obtain ⟨rfl, Sa6, hT6, hn6, k6⟩ := hT.left hP
                      have hX6 := hX.keep hn6 k6
                      have hY6 := hY.keep hn6 k6
                      have hV6 := hVo.keep hn6 k6
                      have hYb := hY6.at
                      have hVb := hV6.at
                      rw [Hv.contD_at]
                      refine ⟨by simp only [push_cast, Nat.reduceBEq, Nat.reduceAdd, Nat.reduceEqDiff, reduceCtorEq, Nat.reduceLeDiff, Nat.reduceSub, Nat.reduceMul, Nat.reduceLT, Int.reduceEq, Int.reduceLT, Int.reduceLE, Int.reduceBEq, Int.reduceBNe, Int.reduceToNat, Int.reduceNeg, Int.reduceSub, Int.reduceAdd, hYb, hVb, hPb, hyr, htk2, hbm, hk', List.length_map, ptrI], ?_⟩
                      simp only [push_cast, Nat.reduceBEq, Nat.reduceAdd, Nat.reduceEqDiff, reduceCtorEq, Nat.reduceLeDiff, Nat.reduceSub, Nat.reduceMul, Nat.reduceLT, Int.reduceEq, Int.reduceLT, Int.reduceLE, Int.reduceBEq, Int.reduceBNe, Int.reduceToNat, Int.reduceNeg, Int.reduceSub, Int.reduceAdd, hYb, hVb, hPb, hyr, htk2, hbm, hk', List.length_map, ptrI]
                      refine callHD (abt_c hT6.hb hxb htb) ?_
                      rintro r H7 n7 hP
                      obtain ⟨rfl, Sb7, hT7, hn7, k7⟩ := hT6.right hP
                      clear hP
                      have hX7 := hX6.keep hn7 k7
                      have hY7 := hY6.keep hn7 k7
                      clear hn7 k7 hT6 hX6 hY6 hYb hVb hV6 k6 hn6
                      rw [Hv.contD_at]
                      refine ⟨by simp only [push_cast, Nat.reduceBEq, Nat.reduceAdd, Nat.reduceEqDiff, reduceCtorEq, Nat.reduceLeDiff, Nat.reduceSub, Nat.reduceMul, Nat.reduceLT, Int.reduceEq, Int.reduceLT, Int.reduceLE, Int.reduceBEq, Int.reduceBNe, Int.reduceToNat, Int.reduceNeg, Int.reduceSub, Int.reduceAdd], ?_⟩

                      rw [← stopK_eq (Hv.ron _ _)]
                      simp only [Hv.rk_nil, Hv.rk_cons, Hv.stepK, Hv.ron_at, Hv.cwp_draw, Hv.rkD_nil, Hv.rkD_cons, Hv.effK, Hv.contD_at, Hv.pinsOk, Hv.annOk, Hv.newOf, Hv.dstD, Hv.isR, Hv.gdval, Hv.dval, Hv.cwp_skip, Hv.cwp_region, Hv.cwp_seq, Hv.cwp_block, Hv.cwp_cond, Hv.cwp_loop, Hv.cwp_exit, Hv.cwp_ret, Hv.cwp_label, Hv.den_nil, Hv.den_sq_nrm, Hv.den_sq_ret, Hv.den_sq_ext, Hv.den_bl_nrm, Hv.den_bl_ret, Hv.den_bl_ext, Hv.den_lp_nrm, Hv.den_lp_ret, Hv.den_lp_ext, Hv.gsem, Hv.AV.said?, Hv.AV.skip, Hv.fop, Hv.feff, Hv.fapp, Hv.acutM, Hv.fval, Hv.callee?, Hv.AS.eval, Hv.AS.get, Hv.AS.set, Hv.AS.put, Hv.AS.keep, Hv.AS.fresh, Hv.AS.chg, Hv.readA, Hv.aidx, Hv.alook, Hv.aentry, Hv.keyKind, Hv.lkp, Hv.upd_at, Hv.AV.view, Hv.AV.bool?, Hv.AV.int?, Hv.AV.lit?, Hv.AV.its?, Hv.AV.num?, Hv.isNilV, Hv.isNilO, Hv.apick, Hv.alen, Hv.acut, Hv.acutL, Hv.acutS, Hv.acutR, Hv.onum, Hv.abin, Hv.isShift, Hv.aint, Hv.aun, Hv.astr, Hv.anews, Hv.fits, Hv.piece, Hv.headLen, Hv.nonNil, Hv.litArgs, Hv.ptrEq, Hv.boolEq, Hv.aptr, Hv.binv, Hv.aeq, Hv.AV.aggc?, Hv.lits, Hv.AV.cells, Hv.AV.isOne, Hv.setR, Hv.abuild, Hv.bsItems, Hv.szN, Hv.zeroA, Hv.beginF, Hv.HPost, Hv.APost, Hv.rets, Hv.retv, Hv.retA, Hv.sealH, Hv.sealO, Value.oneCell', Value.cells, List.map_cons, List.map_nil, List.drop_zero, List.drop_succ_cons, List.getElem?_cons_zero, List.getElem?_cons_succ, List.getElem?_map, Option.map_some, Option.map_none, Option.bind_some, Option.bind_none, cond_true, cond_false, decide_true, decide_false, Nat.add_zero, Nat.zero_add, and_true, beq_self_eq_true, if_true, if_false, ite_true, ite_false, Int.toNat_natCast, Hv.beqE, List.all_cons, List.all_nil, Bool.and_true, Bool.true_and, Bool.or_true, Bool.true_or, Bool.or_false, Bool.false_or, Bool.and_false, Bool.false_and, Int.natCast_nonneg, List.length_cons, List.length_nil, List.length_map, and_self, eq_self, List.take_zero, List.take_succ_cons, List.nil_append, List.cons_append, List.forall_mem_map, implies_true, Int.le_refl, List.toList_toArray, Int.toNat_zero, Int.ofNat_le, Int.ofNat_lt, Bool.not_true, Bool.not_false, bne_self_eq_false, not_false_eq_true, Nat.le_refl, Hv.beq_tf, Hv.beq_ft, Hv.range0, Hv.range1, Hv.range2, Hv.range3, List.forall_mem_cons, List.forall_mem_nil, forall_eq, List.mem_singleton, Option.isSome_some, Hv.elem_nil, Hv.ble_self, Hv.take_map_all, Hv.elem_cons, Hv.lk_nil, Hv.lk_cons, Hv.AV.view1, Hv.AV.viewR, Hv.fetch, Hv.fetchs, Hv.retC, Hv.HPostC, Hv.APostC, Hv.rdAt, Hv.kmatchA, Hv.ckIs, Hv.aindexA, Hv.eqFl, Hv.kmatch, Hv.veq, Hv.veqs, Hv.ashift, Hv.fmore, Hv.kfind, Hv.keyKindH, Hv.isVar, Hv.acutA, Nat.mul_one, Nat.one_mul, Nat.zero_mul, Nat.mul_zero, Hv.pks25, Hv.pks28, Hv.pks112, Hv.pks116, Hv.keys65, Hv.zeros3, Hv.zeros4, Hv.zeros5, Hv.zeros9, Hv.zeros22, Hv.zeros23, Hv.zeros25, Hv.zeros27, Hv.zeros28, Hv.zeros29, Hv.zeros32, Hv.zeros34, Hv.zeros35, Hv.zeros36, Hv.zeros39, Hv.zeros45, Hv.zeros47, Hv.zeros48, Hv.zeros50, Hv.zeros54, Hv.zeros55, Hv.zeros57, Hv.zeros58, Hv.zeros60, Hv.zeros62, Hv.zeros63, Hv.zeros65, Hv.zeros68, Hv.zeros69, Hv.zeros73, Hv.zeros75, Hv.zeros76, Hv.zeros79, Hv.zeros82, Hv.zeros87, Hv.zeros91, Hv.zeros100, Hv.zeros108, Hv.zeros112, Hv.zeros116, Hv.fszs39, Hv.fszs50, Hv.fszs57, Hv.fszs60, Hv.fszs65, Hv.eqs39, Hv.eqs50, Hv.sls22, Hv.sls23, Hv.sls27, Hv.sls32, Hv.sls34, Hv.sls35, Hv.sls45, Hv.sls48, Hv.szs3, Hv.szs4, Hv.szs5, Hv.szs9, Hv.szs22, Hv.szs23, Hv.szs25, Hv.szs27, Hv.szs28, Hv.szs29, Hv.szs32, Hv.szs34, Hv.szs35, Hv.szs36, Hv.szs39, Hv.szs45, Hv.szs47, Hv.szs48, Hv.szs50, Hv.szs54, Hv.szs55, Hv.szs57, Hv.szs58, Hv.szs60, Hv.szs62, Hv.szs63, Hv.szs65, Hv.szs68, Hv.szs69, Hv.szs73, Hv.szs75, Hv.szs76, Hv.szs79, Hv.szs82, Hv.szs87, Hv.szs91, Hv.szs100, Hv.szs108, Hv.szs112, Hv.szs116, Hv.fld39_0, Hv.fld39_1, Hv.fld39_2, Hv.fld50_0, Hv.fld50_1, Hv.fld50_2, Hv.fld50_3, Hv.fld50_4, Hv.fld57_0, Hv.fld57_1, Hv.fld57_2, Hv.fld60_0, Hv.fld60_1, Hv.fld60_2, Hv.fld65_0, Hv.fld65_1, Hv.ints3, Hv.ints5, Hv.ints29, Hv.ints36, Hv.ints87, Hv.ints91, Hv.ints100, Hv.ints108, Hv.strs9, Hv.ptrs25, Hv.ptrs28, Hv.ptrs112, Hv.ptrs116, Hv.bools4, Hv.nptr4, Hv.arrs63, Hv.byts45, Hv.maps54, Hv.maps55, Hv.maps58, Hv.maps62, Hv.maps73, Hv.narr0, Hv.nint0, Hv.nsls0, Hv.nstr0, Hv.nbyt0, Hv.narr3, Hv.nsls3, Hv.nstr3, Hv.nbyt3, Hv.narr4, Hv.nint4, Hv.nsls4, Hv.nstr4, Hv.nbyt4, Hv.narr5, Hv.nsls5, Hv.nstr5, Hv.nbyt5, Hv.narr9, Hv.nint9, Hv.nsls9, Hv.nbyt9, Hv.narr22, Hv.nint22, Hv.nstr22, Hv.nbyt22, Hv.narr23, Hv.nint23, Hv.nstr23, Hv.nbyt23, Hv.narr25, Hv.nint25, Hv.nsls25, Hv.nstr25, Hv.nbyt25, Hv.narr27, Hv.nint27, Hv.nstr27, Hv.nbyt27, Hv.narr28, Hv.nint28, Hv.nsls28, Hv.nstr28, Hv.nbyt28, Hv.narr29, Hv.nsls29, Hv.nstr29, Hv.nbyt29, Hv.narr30, Hv.nint30, Hv.nsls30, Hv.nstr30, Hv.nbyt30, Hv.narr32, Hv.nint32, Hv.nstr32, Hv.nbyt32, Hv.narr34, Hv.nint34, Hv.nstr34, Hv.nbyt34, Hv.narr35, Hv.nint35, Hv.nstr35, Hv.nbyt35, Hv.narr36, Hv.nsls36, Hv.nstr36, Hv.nbyt36, Hv.narr39, Hv.nint39, Hv.nsls39, Hv.nstr39, Hv.nbyt39, Hv.narr45, Hv.nint45, Hv.nstr45, Hv.narr47, Hv.nint47, Hv.nsls47, Hv.nstr47, Hv.nbyt47, Hv.narr48, Hv.nint48, Hv.nstr48, Hv.nbyt48, Hv.narr50, Hv.nint50, Hv.nsls50, Hv.nstr50, Hv.nbyt50, Hv.narr54, Hv.nint54, Hv.nsls54, Hv.nstr54, Hv.nbyt54, Hv.narr55, Hv.nint55, Hv.nsls55, Hv.nstr55, Hv.nbyt55, Hv.narr57, Hv.nint57, Hv.nsls57, Hv.nstr57, Hv.nbyt57, Hv.narr58, Hv.nint58, Hv.nsls58, Hv.nstr58, Hv.nbyt58, Hv.narr60, Hv.nint60, Hv.nsls60, Hv.nstr60, Hv.nbyt60, Hv.narr62, Hv.nint62, Hv.nsls62, Hv.nstr62, Hv.nbyt62, Hv.nint63, Hv.nsls63, Hv.nstr63, Hv.nbyt63, Hv.narr65, Hv.nint65, Hv.nsls65, Hv.nstr65, Hv.nbyt65, Hv.narr68, Hv.nint68, Hv.nsls68, Hv.nstr68, Hv.nbyt68, Hv.narr69, Hv.nint69, Hv.nsls69, Hv.nstr69, Hv.nbyt69, Hv.narr73, Hv.nint73, Hv.nsls73, Hv.nstr73, Hv.nbyt73, Hv.narr75, Hv.nint75, Hv.nsls75, Hv.nstr75, Hv.nbyt75, Hv.narr76, Hv.nint76, Hv.nsls76, Hv.nstr76, Hv.nbyt76, Hv.narr79, Hv.nint79, Hv.nsls79, Hv.nstr79, Hv.nbyt79, Hv.narr80, Hv.nint80, Hv.nsls80, Hv.nstr80, Hv.nbyt80, Hv.narr82, Hv.nint82, Hv.nsls82, Hv.nstr82, Hv.nbyt82, Hv.narr87, Hv.nsls87, Hv.nstr87, Hv.nbyt87, Hv.narr91, Hv.nsls91, Hv.nstr91, Hv.nbyt91, Hv.narr92, Hv.nint92, Hv.nsls92, Hv.nstr92, Hv.nbyt92, Hv.narr97, Hv.nint97, Hv.nsls97, Hv.nstr97, Hv.nbyt97, Hv.narr100, Hv.nsls100, Hv.nstr100, Hv.nbyt100, Hv.narr108, Hv.nsls108, Hv.nstr108, Hv.nbyt108, Hv.narr112, Hv.nint112, Hv.nsls112, Hv.nstr112, Hv.nbyt112, Hv.narr116, Hv.nint116, Hv.nsls116, Hv.nstr116, Hv.nbyt116, Hv.narr117, Hv.nint117, Hv.nsls117, Hv.nstr117, Hv.nbyt117, Nat.reduceBEq, Nat.reduceAdd, Nat.reduceEqDiff, reduceCtorEq, Nat.reduceLeDiff, Nat.reduceSub, Nat.reduceMul, Nat.reduceLT, Int.reduceEq, Int.reduceLT, Int.reduceLE, Int.reduceBEq, Int.reduceBNe, Int.reduceToNat, Int.reduceNeg, Int.reduceSub, Int.reduceAdd]
                      refine ⟨trivial, trivial, ?_⟩
                      rw [stopK_eq, Hv.ron_at]
                      simp only [push_cast, Nat.reduceBEq, Nat.reduceAdd, Nat.reduceEqDiff, reduceCtorEq, Nat.reduceLeDiff, Nat.reduceSub, Nat.reduceMul, Nat.reduceLT, Int.reduceEq, Int.reduceLT, Int.reduceLE, Int.reduceBEq, Int.reduceBNe, Int.reduceToNat, Int.reduceNeg, Int.reduceSub, Int.reduceAdd]
                      obtain ⟨tt, st⟩ := step_abt hta
                      exact meet (.lit (.bool true)) (.lit (.bool false)) (.lit (.bool false)) (.lit (.bool false)) (.lit (.int .i64 5)) (.dead) top (abtErr t) H7 n7 Sb7 Sa6 (D5.abt k t) (Da.abt k t) tt st htop1 (hS.abt hta) hT7 hY7 hX7
                    · have hcb2 : (mv.call == 2) = false := beq_eq_false_iff_ne.2 hc2
                      have hcb3 : (mv.call == 3) = false := beq_eq_false_iff_ne.2 hc3
                      have hcb4 : (mv.call == 4) = false := beq_eq_false_iff_ne.2 hc4
                      have hcb5 : (mv.call == 5) = false := beq_eq_false_iff_ne.2 hc5
                      simp only [push_cast, Nat.reduceBEq, Nat.reduceAdd, Nat.reduceEqDiff, reduceCtorEq, Nat.reduceLeDiff, Nat.reduceSub, Nat.reduceMul, Nat.reduceLT, Int.reduceEq, Int.reduceLT, Int.reduceLE, Int.reduceBEq, Int.reduceBNe, Int.reduceToNat, Int.reduceNeg, Int.reduceSub, Int.reduceAdd, hcb2, hcb3, hcb4, hcb5, hVa, hcb1, hm0', hmb, hum, hk1, hk2, hXa, hYa, hPa, hPb, hxr, hyr, htk, htk2, hbm, hk', List.length_map, ptrI]
                      exact meet (.lit (.bool false)) (.lit (.bool false)) (.lit (.bool false)) (.lit (.bool false)) (.lit (.int .i64 mv.call)) .dead top 0 H5 n5 Sb5 Sa D5 Da t (.refl hta) htop1 hS hT hY hX
            · intro v160 v134 v118 v98 v97 v19 top7 ev H7 n7 Sb7 Sa6 Db7 Da7 tt st htop7 hS7 hT7 hY7 hX7
              rw [stopC_eq]
              have hta7 := st.at'
              have htb7 : Db7.txns[k]? = some tt := by rw [← hS7.tx]; exact hta7
              have hcl : Db7.clash tt = Da7.clash tt := (hS7.clash (List.mem_of_getElem? hta7)).symm
              have hol7 := sysOps_len hT7.ha hta7
              have hXa := hX7.at
              have hYa := hY7.at
              simp only [push_cast, Nat.reduceBEq, Nat.reduceAdd, Nat.reduceEqDiff, reduceCtorEq, Nat.reduceLeDiff, Nat.reduceSub, Nat.reduceMul, Nat.reduceLT, Int.reduceEq, Int.reduceLT, Int.reduceLE, Int.reduceBEq, Int.reduceBNe, Int.reduceToNat, Int.reduceNeg, Int.reduceSub, Int.reduceAdd, hXa, hYa, hPa, hPb, hxr, hyr, htk, htk2, hbm, hk', List.length_map, ptrI]
              refine callHD (clash_c hT7.ha hxa hta7) ?_
              rintro _ H8 n8 ⟨rfl, hn8, _, k8⟩
              have hT8 := hT7.same hn8 k8
              have hX8 := hX7.same hn8 k8
              have hY8 := hY7.same hn8 k8
              have hXa := hX8.at
              have hYa := hY8.at
              rw [Hv.contD_at]
              refine ⟨by simp only [push_cast, Nat.reduceBEq, Nat.reduceAdd, Nat.reduceEqDiff, reduceCtorEq, Nat.reduceLeDiff, Nat.reduceSub, Nat.reduceMul, Nat.reduceLT, Int.reduceEq, Int.reduceLT, Int.reduceLE, Int.reduceBEq, Int.reduceBNe, Int.reduceToNat, Int.reduceNeg, Int.reduceSub, Int.reduceAdd, hXa, hYa, hPa, hPb, hxr, hyr, htk, htk2, hbm, hk', List.length_map, ptrI], ?_⟩
              simp only [push_cast, Nat.reduceBEq, Nat.reduceAdd, Nat.reduceEqDiff, reduceCtorEq, Nat.reduceLeDiff, Nat.reduceSub, Nat.reduceMul, Nat.reduceLT, Int.reduceEq, Int.reduceLT, Int.reduceLE, Int.reduceBEq, Int.reduceBNe, Int.reduceToNat, Int.reduceNeg, Int.reduceSub, Int.reduceAdd, hXa, hYa, hPa, hPb, hxr, hyr, htk, htk2, hbm, hk', List.length_map, ptrI]
              refine callHD (clash_c hT8.hb hxb htb7) ?_
              rintro _ H9 n9 ⟨rfl, hn9, _, k9⟩
              have hT9 := hT8.same hn9 k9
              have hX9 := hX8.same hn9 k9
              have hY9 := hY8.same hn9 k9
              have hXa := hX9.at
              have hYa := hY9.at
              rw [hcl]
              rw [Hv.contD_at]
              refine ⟨by simp only [push_cast, Nat.reduceBEq, Nat.reduceAdd, Nat.reduceEqDiff, reduceCtorEq, Nat.reduceLeDiff, Nat.reduceSub, Nat.reduceMul, Nat.reduceLT, Int.reduceEq, Int.reduceLT, Int.reduceLE, Int.reduceBEq, Int.reduceBNe, Int.reduceToNat, Int.reduceNeg, Int.reduceSub, Int.reduceAdd], ?_⟩
              simp only [push_cast, Nat.reduceBEq, Nat.reduceAdd, Nat.reduceEqDiff, reduceCtorEq, Nat.reduceLeDiff, Nat.reduceSub, Nat.reduceMul, Nat.reduceLT, Int.reduceEq, Int.reduceLT, Int.reduceLE, Int.reduceBEq, Int.reduceBNe, Int.reduceToNat, Int.reduceNeg, Int.reduceSub, Int.reduceAdd, hXa, hYa, hPa, hPb, hxr, hyr, htk, htk2, hbm, hk', List.length_map, ptrI]
              refine callHD (ops_c hT9.ha hxa hta7) ?_
              rintro _ HA nA ⟨ga, rfl, hnA, _, hga, _, kA⟩
              have hTA := hT9.same hnA kA
              have hXA := hX9.same hnA kA
              have hYA := hY9.same hnA kA
              have hXa := hXA.at
              have hYa := hYA.at
              rw [Hv.contD_at]
              refine ⟨by simp only [push_cast, Nat.reduceBEq, Nat.reduceAdd, Nat.reduceEqDiff, reduceCtorEq, Nat.reduceLeDiff, Nat.reduceSub, Nat.reduceMul, Nat.reduceLT, Int.reduceEq, Int.reduceLT, Int.reduceLE, Int.reduceBEq, Int.reduceBNe, Int.reduceToNat, Int.reduceNeg, Int.reduceSub, Int.reduceAdd, hXa, hYa, hPa, hPb, hxr, hyr, htk, htk2, hbm, hk', List.length_map, ptrI], ?_⟩
              simp only [push_cast, Nat.reduceBEq, Nat.reduceAdd, Nat.reduceEqDiff, reduceCtorEq, Nat.reduceLeDiff, Nat.reduceSub, Nat.reduceMul, Nat.reduceLT, Int.reduceEq, Int.reduceLT, Int.reduceLE, Int.reduceBEq, Int.reduceBNe, Int.reduceToNat, Int.reduceNeg, Int.reduceSub, Int.reduceAdd, hXa, hYa, hPa, hPb, hxr, hyr, htk, htk2, hbm, hk', List.length_map, ptrI]
              refine callHD (ops_c hTA.hb hxb htb7) ?_
              rintro _ HB nB ⟨gb, rfl, hnB, _, hgb, _, kB⟩
              have hTB := hTA.same hnB kB
              have hXB := hXA.same hnB kB
              have hYB := hYA.same hnB kB
              have hga2 : HB ga = some (.row false 39 ((opsOf tt).map opI)) := (kB ga hga.2.1).trans hga.1
              rw [Hv.contD_at]
              refine ⟨by simp only [push_cast, Nat.reduceBEq, Nat.reduceAdd, Nat.reduceEqDiff, reduceCtorEq, Nat.reduceLeDiff, Nat.reduceSub, Nat.reduceMul, Nat.reduceLT, Int.reduceEq, Int.reduceLT, Int.reduceLE, Int.reduceBEq, Int.reduceBNe, Int.reduceToNat, Int.reduceNeg, Int.reduceSub, Int.reduceAdd], ?_⟩
              simp only [push_cast, Nat.reduceBEq, Nat.reduceAdd, Nat.reduceEqDiff, reduceCtorEq, Nat.reduceLeDiff, Nat.reduceSub, Nat.reduceMul, Nat.reduceLT, Int.reduceEq, Int.reduceLT, Int.reduceLE, Int.reduceBEq, Int.reduceBNe, Int.reduceToNat, Int.reduceNeg, Int.reduceSub, Int.reduceAdd]
              refine callHD (opsRefl_h hga2 hgb.1 (by omega)) ?_
              rintro _ HC nC ⟨rfl, rfl, rfl⟩
              rw [Hv.contD_at]
              refine ⟨by simp only [push_cast, Nat.reduceBEq, Nat.reduceAdd, Nat.reduceEqDiff, reduceCtorEq, Nat.reduceLeDiff, Nat.reduceSub, Nat.reduceMul, Nat.reduceLT, Int.reduceEq, Int.reduceLT, Int.reduceLE, Int.reduceBEq, Int.reduceBNe, Int.reduceToNat, Int.reduceNeg, Int.reduceSub, Int.reduceAdd], ?_⟩
              simp only [push_cast, Nat.reduceBEq, Nat.reduceAdd, Nat.reduceEqDiff, reduceCtorEq, Nat.reduceLeDiff, Nat.reduceSub, Nat.reduceMul, Nat.reduceLT, Int.reduceEq, Int.reduceLT, Int.reduceLE, Int.reduceBEq, Int.reduceBNe, Int.reduceToNat, Int.reduceNeg, Int.reduceSub, Int.reduceAdd, hwi]
              exact ⟨_, by omega, i + 1, _, _, _, gx, gy, m, _, _, Pa, Pb, _, _, rfl, by omega, rfl, hTB, hS7, htop7, st.len.trans hm, by omega, Nat.le_trans st.opn hop, hXB, hYB, hxy⟩
    · simp only [push_cast, Nat.reduceBEq, Nat.reduceAdd, Nat.reduceEqDiff, reduceCtorEq, Nat.reduceLeDiff, Nat.reduceSub, Nat.reduceMul, Nat.reduceLT, Int.reduceEq, Int.reduceLT, Int.reduceLE, Int.reduceBEq, Int.reduceBNe, Int.reduceToNat, Int.reduceNeg, Int.reduceSub, Int.reduceAdd, hir, show (i : Int) < (row.length : Int) by omega, show ¬ (i : Int) < 100 by omega]
  · simp only [push_cast, Nat.reduceBEq, Nat.reduceAdd, Nat.reduceEqDiff, reduceCtorEq, Nat.reduceLeDiff, Nat.reduceSub, Nat.reduceMul, Nat.reduceLT, Int.reduceEq, Int.reduceLT, Int.reduceLE, Int.reduceBEq, Int.reduceBNe, Int.reduceToNat, Int.reduceNeg, Int.reduceSub, Int.reduceAdd, hir, show ¬ (i : Int) < (row.length : Int) by omega]
end Go.Proofs.Ytnaiaacgcjikiaa
