/- Chapter 12's statement EpochOldest, by the walk over a heap. -/
import Derived.Test.YtndojmpgadbefaaEpOldP
import Derived.Test.YtndojmpgadbefaaEpDay
set_option linter.unusedVariables false
set_option linter.unusedSimpArgs false
namespace Go.Proofs.Ytndojmpgadbefaa
open Go Go.RowKit Hv
set_option maxRecDepth 20000
set_option maxHeartbeats 4000000
theorem EpH.app {H : Hp} {n e g : Nat} {S : Nat → Prop} {N : EpN} {D : EpD} (h : EpH H n S e N D) (hg : ¬ S g) (o1 o2 o3 : Option AO) : EpH (upd (upd (upd H n o1) g o2) (n + 1) o3) (n + 1 + 1) S e N D :=
  h.frame (by omega) fun j hj => by
    have := h.lt j hj
    rw [upd_other (by omega), upd_other (fun x : g = j => hg (x ▸ hj)), upd_other (by omega)]
theorem EpH.u1 {H : Hp} {n e g : Nat} {S : Nat → Prop} {N : EpN} {D : EpD} (h : EpH H n S e N D) (hg : ¬ S g) {o : Option AO} : EpH (upd H g o) n S e N D :=
  h.frame (Nat.le_refl _) fun j hj => upd_other (fun x : g = j => hg (x ▸ hj))
theorem EpochOldest_h (row : List DayD) : Hv.ACalls Try.prog 6 [.sl (row.map dayI)] (.lit (.bool true)) := by
  refine acallsC_of (rs := [.tmp 2]) ⟨[0, 2, 3, 4, 5, 6, 7, 8, 9, 10, 11, 12, 13, 14, 16, 22, 29, 37, 44, 45, 60, 66, 83, 91, 95, 104, 111, 154], [6, 65], [], [(36, [(0, [], []), (2, [], []), (1, [], [0]), (3, [], []), (4, [], []), (5, [], []), (6, [], []), (7, [], []), (8, [], []), (9, [], []), (10, [], []), (11, [], []), (12, [], []), (13, [], []), (14, [], []), (15, [], []), (16, [], []), (17, [], []), (18, [], []), (19, [], []), (20, [], []), (21, [], []), (22, [17, 19, 20], [21, 14, 13, 9, 12, 8, 4, 11, 7, 3, 1, 10, 5, 6, 2, 0]), (23, [], []), (24, [], []), (25, [], []), (26, [], []), (27, [], []), (28, [], []), (30, [], []), (29, [27], [28, 25, 24, 22, 14, 23, 21, 13, 9, 20, 12, 8, 4, 19, 11, 7, 3, 1, 15, 18, 10, 5, 6, 2, 0, 17, 16]), (31, [], []), (32, [], []), (33, [], []), (34, [], [])])]⟩ TOk mixed Try.func6 rfl rfl (by kernel_rfl) (by kernel_rfl) rfl (by simp [noId_days]) (.lit _) ?_
  simp only [push_cast, Nat.reduceBEq, Nat.reduceAdd, Nat.reduceEqDiff, reduceCtorEq, Nat.reduceLeDiff, Nat.reduceSub, Nat.reduceMul, Nat.reduceLT, Int.reduceEq, Int.reduceLT, Int.reduceLE, Int.reduceBEq, Int.reduceBNe, Int.reduceToNat, Int.reduceNeg, Int.reduceSub, Int.reduceAdd]
  refine callH ages_h ?_
  rintro _ H0 n0 ⟨rfl, hn0, _⟩
  simp only [push_cast, Nat.reduceBEq, Nat.reduceAdd, Nat.reduceEqDiff, reduceCtorEq, Nat.reduceLeDiff, Nat.reduceSub, Nat.reduceMul, Nat.reduceLT, Int.reduceEq, Int.reduceLT, Int.reduceLE, Int.reduceBEq, Int.reduceBNe, Int.reduceToNat, Int.reduceNeg, Int.reduceSub, Int.reduceAdd]
  refine callH (newPool_c (size := 64) (K := 10) (by decide) (by decide) (by decide) (by decide)) ?_
  rintro _ H1 n1 ⟨p, S1, rfl, hp1, hn1, hS1, k1⟩
  simp only [push_cast, Nat.reduceBEq, Nat.reduceAdd, Nat.reduceEqDiff, reduceCtorEq, Nat.reduceLeDiff, Nat.reduceSub, Nat.reduceMul, Nat.reduceLT, Int.reduceEq, Int.reduceLT, Int.reduceLE, Int.reduceBEq, Int.reduceBNe, Int.reduceToNat, Int.reduceNeg, Int.reduceSub, Int.reduceAdd]
  refine callH (newEp_c hp1 (l := landZ) rfl rfl (by decide)) ?_
  rintro _ H2 n2 ⟨e, S2, rfl, ⟨N2, h2, hN2⟩, hn2, k2⟩
  obtain ⟨D0, hD0⟩ : ∃ D, D = (epZ (poolZ 64 10)).adv 0 landZ := ⟨_, rfl⟩
  rw [← hD0] at h2
  have hI0 := oldI_first hD0
  clear hD0
  simp only [push_cast, Nat.reduceBEq, Nat.reduceAdd, Nat.reduceEqDiff, reduceCtorEq, Nat.reduceLeDiff, Nat.reduceSub, Nat.reduceMul, Nat.reduceLT, Int.reduceEq, Int.reduceLT, Int.reduceLE, Int.reduceBEq, Int.reduceBNe, Int.reduceToNat, Int.reduceNeg, Int.reduceSub, Int.reduceAdd]
  have h3 := h2.frame (H' := upd H2 n2 (some (.row true 3 []))) (n' := n2 + 1) (by omega) fun j hj => upd_other (by have := h2.lt j hj; omega)
  refine loopK (fun q s => ∃ (i : Nat) (was : Int) (H4 : Hp) (n4 : Nat) (S4 : Nat → Prop) (N4 : EpN) (D : EpD) (P : List Int) (g : Nat), s = ⟨[(0, .sl (row.map dayI)), (5, .ptr e 0), (6, .rw g 1 0 P.length), (7, .lit (.int .i64 was)), (8, .lit (.int .i64 (i : Int)))], H4, n4⟩ ∧ i ≤ 100 ∧ q = 100 - i ∧ EpH H4 n4 S4 e N4 D ∧ OldI i D P was ∧ H4 g = some (.row true 3 (P.map intI)) ∧ g < n4 ∧ ¬ S4 g) _ [0, 5, 6, 7, 8]
    ⟨0, 1, _, n2 + 1, S2, N2, D0, [], n2, rfl, by omega, rfl, h3, hI0, upd_same _ _ _, Nat.lt_succ_self _, fun hs => by have := h2.lt _ hs; omega⟩ ?_
  rintro q _ ⟨i, was, H4, n4, S4, N4, D, P, g, rfl, hi, rfl, h4, hI, hg, hgn, hgS⟩
  by_cases hir : i < row.length
  · by_cases hi100 : i < 100
    · have hir' : (i : Int) < (row.length : Int) := by omega
      have hi' : (i : Int) < 100 := by omega
      obtain ⟨d, hd⟩ : ∃ d, row[i]? = some d := ⟨_, List.getElem?_eq_getElem hir⟩
-- CALLS
      rw [← stopC_eq (Code.seq (Code.region 29 _ _) _)]
      have hpp := hI.pp
      have hlast := hpp.last
      have hnow1 := hI.now1
      have hnowB := hI.nowB
      have hPl := hI.len
      have hfew := hI.ok.pinsFew hI.kn
      have hpl : D.pins.length < 1000 := by omega
      have hlast2 : D.last < 1000000000 := by omega
      have hz1 : ((D.last + 1 : Nat) : Int) = (P.length : Int) + 1 := by omega
      have hwl : IntKind.i64.wrap ((P.length : Int) + 1) = (P.length : Int) + 1 := IntWalk.i64_in _ (by omega)
      have hq5 : (P.length + 1) * 8 ≤ 140737488355328 := by omega
      have hwi := wrap_nat0 (k := i) (by omega)
      have hnowC : D.now < 1000000000 := by omega
      have hcnt := hI.ok.cnt
      have hlo1 := hI.ok.pos.1
      have hell : D.eras.length < 256 := by omega
      have hll : D.pool.lands.length = 256 := by obtain ⟨Sp, p1, _⟩ := h4.pool; exact p1.ok.ll
      obtain ⟨fi, fl, hf1, hf2, hf3, hf4⟩ := hI.x.free hll hell
      have hf4' : fl.gen ≤ 1000000000 := by omega
      obtain ⟨cc, hcc1, hcc2⟩ := hI.cut
      obtain ⟨k, hk, hk1, hk2⟩ := u64_mod d.n (K := 30) (by decide) (by decide)
      simp only [show ((30 : Nat) : Int) = 30 from rfl] at hk1
      have hn4g : ∀ o1 o2, upd (upd H4 n4 o1) (n4 + 1) o2 g = H4 g := fun o1 o2 => by rw [upd_other (by omega), upd_other (by omega)]
      have hkey : 1 ≤ k → k ≤ P.length → ∃ j : Nat, k = j + 1 ∧ j < P.length ∧ (∃ v, P[j]? = some v ∧ (v = 0 ∨ 0 < v)) ∧ IntKind.i64.wrap ((k : Int) - 1) = (j : Int) := fun h1 h2 => by
        obtain ⟨v, hv⟩ : ∃ v, P[k - 1]? = some v := ⟨_, List.getElem?_eq_getElem (by omega)⟩
        refine ⟨k - 1, by omega, by omega, ⟨v, hv, ?_⟩, ?_⟩
        · have := hpp.pos v (List.mem_of_getElem? hv); omega
        · rw [show (k : Int) - 1 = ((k - 1 : Nat) : Int) by omega]; exact IntWalk.i64_in _ (by omega)
      have hA : 1 ≤ k → (k : Int) ≥ 1 := fun h => by omega
      have hA' : ¬ 1 ≤ k → ¬ (k : Int) ≥ 1 := fun h => by omega
      have hB : k ≤ P.length → (k : Int) ≤ (P.length : Int) := fun h => by omega
      have hB' : ¬ k ≤ P.length → ¬ (k : Int) ≤ (P.length : Int) := fun h => by omega

      refine' meetG (fun meet => _) _
      rotate_left
      · by_cases hc1 : d.call = 1
        · simp only [push_cast, Nat.reduceBEq, Nat.reduceAdd, Nat.reduceEqDiff, reduceCtorEq, Nat.reduceLeDiff, Nat.reduceSub, Nat.reduceMul, Nat.reduceLT, Int.reduceEq, Int.reduceLT, Int.reduceLE, Int.reduceBEq, Int.reduceBNe, Int.reduceToNat, Int.reduceNeg, Int.reduceSub, Int.reduceAdd, hir, hir', hi', hd, dayI, hc1]
          refine callH (pin_c h4 hnow1 hpl hlast2) ?_
          rintro _ H6 n6 ⟨rfl, S6, ⟨N6, h6, hN6⟩, hn6, k6⟩
          have hg6 : H6 g = some (.row true 3 (P.map intI)) := (k6 g hgn hgS).1.trans hg
          have hgS6 := (k6 g hgn hgS).2
          have hgn6 : g < n6 := Nat.lt_of_lt_of_le hgn hn6
          simp only [push_cast, Nat.reduceBEq, Nat.reduceAdd, Nat.reduceEqDiff, reduceCtorEq, Nat.reduceLeDiff, Nat.reduceSub, Nat.reduceMul, Nat.reduceLT, Int.reduceEq, Int.reduceLT, Int.reduceLE, Int.reduceBEq, Int.reduceBNe, Int.reduceToNat, Int.reduceNeg, Int.reduceSub, Int.reduceAdd, hz1, hwl]
          refine callH (now_c h6) ?_
          rintro r H6' n6' ⟨hr, hH, hn⟩
          rw [hr, hH, hn]
          have e1 : (n6 == g) = false := nb (Ne.symm (Nat.ne_of_lt hgn6))
          have e2 : (g == n6) = false := nb (Nat.ne_of_lt hgn6)
          have z7 : (((D.pinned (D.last + 1) (D.pins ++ [⟨((D.last + 1 : Nat) : Int), (D.now : Int), D.pc⟩], D.pc + 1)).now : Nat) : Int) = (D.now : Int) := rfl
          rw [z7]
          simp only [push_cast, Nat.reduceBEq, Nat.reduceAdd, Nat.reduceEqDiff, reduceCtorEq, Nat.reduceLeDiff, Nat.reduceSub, Nat.reduceMul, Nat.reduceLT, Int.reduceEq, Int.reduceLT, Int.reduceLE, Int.reduceBEq, Int.reduceBNe, Int.reduceToNat, Int.reduceNeg, Int.reduceSub, Int.reduceAdd, hg6, e1, e2, hq5, intI, List.length_map]

          have h7 := h6.app hgS6 (some (.row false 3 [[.lit (.int .i64 (D.now : Int))]])) (oldO true 3 (P.map intI)) (some (.row true 3 (P.map intI ++ [[.lit (.int .i64 (D.now : Int))]])))
          have hS7 := hI.pin
          have hg7 : (upd (upd (upd H6 n6 (some (.row false 3 [[.lit (.int .i64 (D.now : Int))]]))) g (oldO true 3 (P.map intI))) (n6 + 1) (some (.row true 3 (P.map intI ++ [[.lit (.int .i64 (D.now : Int))]])))) (n6 + 1) = some (.row true 3 ((P ++ [(D.now : Int)]).map intI)) := by rw [upd_same, List.map_append]; rfl
          have hgS7 : ¬ S6 (n6 + 1) := fun hs => Nat.not_succ_le_self _ (Nat.le_of_succ_le (h6.lt _ hs))
          have hgn7 : n6 + 1 < n6 + 1 + 1 := Nat.lt_succ_self _
          have hpe : P.length + 1 = (P ++ [(D.now : Int)]).length := by rw [List.length_append]; rfl
          rw [hpe]
          obtain ⟨P7, hP7⟩ : ∃ P7, P ++ [(D.now : Int)] = P7 := ⟨_, rfl⟩
          rw [hP7] at hS7 hg7 ⊢
          obtain ⟨D7, hD7⟩ : ∃ D7, D.pinned (D.last + 1) (D.pins ++ [⟨((D.last + 1 : Nat) : Int), (D.now : Int), D.pc⟩], D.pc + 1) = D7 := ⟨_, rfl⟩
          rw [hD7] at h7 hS7
          obtain ⟨H7, hH7⟩ : ∃ H7, upd (upd (upd H6 n6 (some (.row false 3 [[.lit (.int .i64 (D.now : Int))]]))) g (oldO true 3 (P.map intI))) (n6 + 1) (some (.row true 3 (P.map intI ++ [[.lit (.int .i64 (D.now : Int))]]))) = H7 := ⟨_, rfl⟩
          rw [hH7] at h7 hg7 ⊢
          obtain ⟨g7, hg7e⟩ : ∃ g7, n6 + 1 = g7 := ⟨_, rfl⟩
          rw [show n6 + 1 + 1 = g7 + 1 by rw [hg7e]] at h7 hgn7 ⊢
          rw [hg7e] at hg7 hgS7 hgn7 ⊢
          obtain ⟨n7, hn7⟩ : ∃ n7, g7 + 1 = n7 := ⟨_, rfl⟩
          rw [hn7] at h7 hgn7 ⊢
          obtain ⟨S7, hS7e⟩ : ∃ S7, S6 = S7 := ⟨_, rfl⟩
          rw [hS7e] at h7 hgS7
          obtain ⟨N7, hN7⟩ : ∃ N7, N6 = N7 := ⟨_, rfl⟩
          rw [hN7] at h7
          clear hP7 hpe hD7 hH7 hg7e hn7 hS7e hN7 e1 e2 hg6 hgS6 hgn6 h6 k6 hn6 hN6 z7 hr hH hn
          obtain ⟨v9, hp⟩ : ∃ v, ((9, AV.lit (.int .i64 ((P.length : Int) + 1))) : Nat × AV) = (9, v) := ⟨_, rfl⟩
          rw [hp]
          clear hp
          obtain ⟨v10, hp⟩ : ∃ v, ((10, AV.lit (.int .i64 0)) : Nat × AV) = (10, v) := ⟨_, rfl⟩
          rw [hp]
          clear hp
          obtain ⟨v11, hp⟩ : ∃ v, ((11, AV.dead) : Nat × AV) = (11, v) := ⟨_, rfl⟩
          rw [hp]
          clear hp
          obtain ⟨v44, hp⟩ : ∃ v, ((44, AV.lit (.int .i64 1)) : Nat × AV) = (44, v) := ⟨_, rfl⟩
          rw [hp]
          clear hp
          obtain ⟨v45, hp⟩ : ∃ v, ((45, AV.lit (.bool true)) : Nat × AV) = (45, v) := ⟨_, rfl⟩
          rw [hp]
          clear hp
          obtain ⟨v60, hp⟩ : ∃ v, ((60, AV.lit (.bool false)) : Nat × AV) = (60, v) := ⟨_, rfl⟩
          rw [hp]
          clear hp
          obtain ⟨v66, hp⟩ : ∃ v, ((66, AV.dead) : Nat × AV) = (66, v) := ⟨_, rfl⟩
          rw [hp]
          clear hp
          obtain ⟨v83, hp⟩ : ∃ v, ((83, AV.dead) : Nat × AV) = (83, v) := ⟨_, rfl⟩
          rw [hp]
          clear hp
          obtain ⟨v91, hp⟩ : ∃ v, ((91, AV.dead) : Nat × AV) = (91, v) := ⟨_, rfl⟩
          rw [hp]
          clear hp
          obtain ⟨v95, hp⟩ : ∃ v, ((95, AV.dead) : Nat × AV) = (95, v) := ⟨_, rfl⟩
          rw [hp]
          clear hp
          revert hgS7
          revert hgn7
          revert hg7
          revert hS7
          revert h7
          revert g7
          revert P7
          revert D7
          revert N7
          revert S7
          revert n7
          revert H7
          revert v95
          revert v91
          revert v83
          revert v66
          revert v60
          revert v45
          revert v44
          revert v11
          revert v10
          revert v9
          exact meet
        · have hcb1 : (d.call == 1) = false := beq_eq_false_iff_ne.2 hc1
          by_cases hc2 : d.call = 2
          · by_cases hk3 : 1 ≤ k
            · by_cases hk4 : k ≤ P.length
              · obtain ⟨j, hj1, hj2, ⟨v, hv, hv0⟩, hwj⟩ := hkey hk3 hk4
                have a1 := hA hk3
                have a2 := hB hk4
                have hx : (P.map intI)[j]? = some (intI v) := by rw [List.getElem?_map, hv]; rfl
                have hset : (P.map intI).set j [.lit (.int .i64 0)] = (P.set j 0).map intI := by rw [List.map_set]; rfl
                have hjl := Int.ofNat_lt.2 hj2
                have hpe : P.length = (P.set j 0).length := (List.length_set ..).symm
                rcases hv0 with hv0 | hv0
                · rw [hv0] at hv
                  have hlk := hpp.gone hv
                  rw [← hj1] at hlk
                  simp only [push_cast, Nat.reduceBEq, Nat.reduceAdd, Nat.reduceEqDiff, reduceCtorEq, Nat.reduceLeDiff, Nat.reduceSub, Nat.reduceMul, Nat.reduceLT, Int.reduceEq, Int.reduceLT, Int.reduceLE, Int.reduceBEq, Int.reduceBNe, Int.reduceToNat, Int.reduceNeg, Int.reduceSub, Int.reduceAdd, hir, hir', hi', hd, dayI, hcb1, hc2, hk1, hk2, hk3, hk4, a1, a2]
                  refine callH (unpin_no h4 hlk) ?_
                  rintro _ H6 n6 ⟨rfl, hn6, k6⟩
                  have h6 := h4.frame (H' := H6) (n' := n6) hn6 fun j hj => k6 j (h4.lt j hj)
                  have hg6 : H6 g = some (.row true 3 (P.map intI)) := (k6 g hgn).trans hg
                  simp only [push_cast, Nat.reduceBEq, Nat.reduceAdd, Nat.reduceEqDiff, reduceCtorEq, Nat.reduceLeDiff, Nat.reduceSub, Nat.reduceMul, Nat.reduceLT, Int.reduceEq, Int.reduceLT, Int.reduceLE, Int.reduceBEq, Int.reduceBNe, Int.reduceToNat, Int.reduceNeg, Int.reduceSub, Int.reduceAdd, hg6, hwj, hjl, hj2, hx, intI, hset]
                  rw [hpe]
                  exact meet (AV.dead) (AV.dead) (AV.lit (.int .i64 (k : Int))) (AV.lit (.int .i64 2)) (AV.lit (.bool false)) (AV.dead) (AV.lit (.bool true)) (AV.lit (.bool true)) (AV.dead) (AV.dead) _ n6 S4 N4 D (P.set j 0) g (h6.u1 hgS) (by rw [set_at hv]; exact hI.same) (upd_same _ _ _) (Nat.lt_of_lt_of_le hgn hn6) hgS
                · have hlk := hpp.found hI.kn hv hv0
                  rw [← hj1] at hlk
                  simp only [push_cast, Nat.reduceBEq, Nat.reduceAdd, Nat.reduceEqDiff, reduceCtorEq, Nat.reduceLeDiff, Nat.reduceSub, Nat.reduceMul, Nat.reduceLT, Int.reduceEq, Int.reduceLT, Int.reduceLE, Int.reduceBEq, Int.reduceBNe, Int.reduceToNat, Int.reduceNeg, Int.reduceSub, Int.reduceAdd, hir, hir', hi', hd, dayI, hcb1, hc2, hk1, hk2, hk3, hk4, a1, a2]
                  refine callH (unpin_c h4 hlk) ?_
                  rintro _ H6 n6 ⟨rfl, S6, ⟨N6, h6, hN6⟩, hn6, k6⟩
                  have hg6 : H6 g = some (.row true 3 (P.map intI)) := (k6 g hgn hgS).1.trans hg
                  have hS7 := hI.unpin hj2
                  rw [← hj1] at hS7
                  simp only [push_cast, Nat.reduceBEq, Nat.reduceAdd, Nat.reduceEqDiff, reduceCtorEq, Nat.reduceLeDiff, Nat.reduceSub, Nat.reduceMul, Nat.reduceLT, Int.reduceEq, Int.reduceLT, Int.reduceLE, Int.reduceBEq, Int.reduceBNe, Int.reduceToNat, Int.reduceNeg, Int.reduceSub, Int.reduceAdd, hg6, hwj, hjl, hj2, hx, intI, hset]
                  rw [hpe]
                  exact meet (AV.dead) (AV.dead) (AV.lit (.int .i64 (k : Int))) (AV.lit (.int .i64 2)) (AV.lit (.bool false)) (AV.dead) (AV.lit (.bool true)) (AV.lit (.bool true)) (AV.dead) (AV.dead) _ n6 S6 N6 _ (P.set j 0) g (h6.u1 (k6 g hgn hgS).2) hS7 (upd_same _ _ _) (Nat.lt_of_lt_of_le hgn hn6) (k6 g hgn hgS).2
              · have a1 := hA hk3
                have a2 := hB' hk4
                simp only [push_cast, Nat.reduceBEq, Nat.reduceAdd, Nat.reduceEqDiff, reduceCtorEq, Nat.reduceLeDiff, Nat.reduceSub, Nat.reduceMul, Nat.reduceLT, Int.reduceEq, Int.reduceLT, Int.reduceLE, Int.reduceBEq, Int.reduceBNe, Int.reduceToNat, Int.reduceNeg, Int.reduceSub, Int.reduceAdd, hir, hir', hi', hd, dayI, hcb1, hc2, hk1, hk2, hk3, hk4, a1, a2]
                exact meet (AV.dead) (AV.dead) (AV.lit (.int .i64 (k : Int))) (AV.lit (.int .i64 2)) (AV.lit (.bool false)) (AV.dead) (AV.lit (.bool true)) (AV.lit (.bool false)) (AV.dead) (AV.dead) H4 n4 S4 N4 D P g h4 hI.same hg hgn hgS
            · have a1 := hA' hk3
              simp only [push_cast, Nat.reduceBEq, Nat.reduceAdd, Nat.reduceEqDiff, reduceCtorEq, Nat.reduceLeDiff, Nat.reduceSub, Nat.reduceMul, Nat.reduceLT, Int.reduceEq, Int.reduceLT, Int.reduceLE, Int.reduceBEq, Int.reduceBNe, Int.reduceToNat, Int.reduceNeg, Int.reduceSub, Int.reduceAdd, hir, hir', hi', hd, dayI, hcb1, hc2, hk1, hk2, hk3, a1]
              exact meet (AV.dead) (AV.dead) (AV.lit (.int .i64 (k : Int))) (AV.lit (.int .i64 2)) (AV.lit (.bool false)) (AV.dead) (AV.lit (.bool true)) (AV.lit (.bool false)) (AV.dead) (AV.dead) H4 n4 S4 N4 D P g h4 hI.same hg hgn hgS
          · by_cases hc5 : d.call = 5
            · simp only [push_cast, Nat.reduceBEq, Nat.reduceAdd, Nat.reduceEqDiff, reduceCtorEq, Nat.reduceLeDiff, Nat.reduceSub, Nat.reduceMul, Nat.reduceLT, Int.reduceEq, Int.reduceLT, Int.reduceLE, Int.reduceBEq, Int.reduceBNe, Int.reduceToNat, Int.reduceNeg, Int.reduceSub, Int.reduceAdd, hir, hir', hi', hd, dayI, hcb1, hc5]
              refine callH (advance_c h4 hf1 hf2 hf3 hf4' hnowC) ?_
              rintro _ H6 n6 ⟨rfl, S6, ⟨N6, h6, hN6⟩, hn6, k6⟩
              simp only [push_cast, Nat.reduceBEq, Nat.reduceAdd, Nat.reduceEqDiff, reduceCtorEq, Nat.reduceLeDiff, Nat.reduceSub, Nat.reduceMul, Nat.reduceLT, Int.reduceEq, Int.reduceLT, Int.reduceLE, Int.reduceBEq, Int.reduceBNe, Int.reduceToNat, Int.reduceNeg, Int.reduceSub, Int.reduceAdd]
              exact meet (AV.dead) (AV.dead) (AV.dead) (AV.lit (.int .i64 5)) (AV.lit (.bool false)) (AV.dead) (AV.lit (.bool false)) (AV.dead) (AV.lit (.bool true)) (AV.dead) H6 n6 S6 N6 _ P g h6 (hI.adv hf1) ((k6 g hgn hgS).1.trans hg) (Nat.lt_of_lt_of_le hgn hn6) (k6 g hgn hgS).2
            · by_cases hc6 : d.call = 6
              · simp only [push_cast, Nat.reduceBEq, Nat.reduceAdd, Nat.reduceEqDiff, reduceCtorEq, Nat.reduceLeDiff, Nat.reduceSub, Nat.reduceMul, Nat.reduceLT, Int.reduceEq, Int.reduceLT, Int.reduceLE, Int.reduceBEq, Int.reduceBNe, Int.reduceToNat, Int.reduceNeg, Int.reduceSub, Int.reduceAdd, hir, hir', hi', hd, dayI, hcb1, hc6]
                refine callH (collect_c h4 hnow1 hI.old hcc1) ?_
                rintro _ H6 n6 ⟨rfl, S6, ⟨N6, h6, hN6⟩, hn6, k6⟩
                simp only [push_cast, Nat.reduceBEq, Nat.reduceAdd, Nat.reduceEqDiff, reduceCtorEq, Nat.reduceLeDiff, Nat.reduceSub, Nat.reduceMul, Nat.reduceLT, Int.reduceEq, Int.reduceLT, Int.reduceLE, Int.reduceBEq, Int.reduceBNe, Int.reduceToNat, Int.reduceNeg, Int.reduceSub, Int.reduceAdd]
                exact meet (AV.dead) (AV.dead) (AV.dead) (AV.lit (.int .i64 6)) (AV.lit (.bool false)) (AV.dead) (AV.lit (.bool false)) (AV.dead) (AV.lit (.bool false)) (AV.lit (.bool true)) H6 n6 S6 N6 _ P g h6 (hI.collect hcc1 hcc2) ((k6 g hgn hgS).1.trans hg) (Nat.lt_of_lt_of_le hgn hn6) (k6 g hgn hgS).2
              · have hcb2 : (d.call == 2) = false := beq_eq_false_iff_ne.2 hc2
                have hcb5 : (d.call == 5) = false := beq_eq_false_iff_ne.2 hc5
                have hcb6 : (d.call == 6) = false := beq_eq_false_iff_ne.2 hc6
                simp only [push_cast, Nat.reduceBEq, Nat.reduceAdd, Nat.reduceEqDiff, reduceCtorEq, Nat.reduceLeDiff, Nat.reduceSub, Nat.reduceMul, Nat.reduceLT, Int.reduceEq, Int.reduceLT, Int.reduceLE, Int.reduceBEq, Int.reduceBNe, Int.reduceToNat, Int.reduceNeg, Int.reduceSub, Int.reduceAdd, hir, hir', hi', hd, dayI, hcb1, hcb2, hcb5, hcb6]
                exact meet (AV.dead) (AV.dead) (AV.dead) (AV.lit (.int .i64 d.call)) (AV.lit (.bool false)) (AV.dead) (AV.lit (.bool false)) (AV.dead) (AV.lit (.bool false)) (AV.lit (.bool false)) H4 n4 S4 N4 D P g h4 hI.same hg hgn hgS
      · intro v9 v10 v11 v44 v45 v60 v66 v83 v91 v95 H7 n7 S7 N7 D7 P7 g7 h7 hS7 hg7 hgn7 hgS7
        rw [stopC_eq]
        have hok7 := h7.ok
        have hnow7 := hS7.now1
        have hcnt7 := hok7.cnt
        have hlo7 := hok7.pos.1
        have hnB7 := hS7.nowB
        have hPl7 := hS7.len
        obtain ⟨z, hz⟩ : ∃ z, leastP D7.now P7 = z := ⟨_, rfl⟩
        have hzo := hS7.pp.oldest
        have hmono := hS7.mono
        have hlo := hS7.lo
        rw [hz] at hzo hmono hlo
        have hzle := hzo.le
        simp only [push_cast, Nat.reduceBEq, Nat.reduceAdd, Nat.reduceEqDiff, reduceCtorEq, Nat.reduceLeDiff, Nat.reduceSub, Nat.reduceMul, Nat.reduceLT, Int.reduceEq, Int.reduceLT, Int.reduceLE, Int.reduceBEq, Int.reduceBNe, Int.reduceToNat, Int.reduceNeg, Int.reduceSub, Int.reduceAdd]
        refine callH (now_c h7) ?_
        rintro r H8 n8 ⟨hr, hH, hn⟩
        rw [hr, hH, hn]
        simp only [push_cast, Nat.reduceBEq, Nat.reduceAdd, Nat.reduceEqDiff, reduceCtorEq, Nat.reduceLeDiff, Nat.reduceSub, Nat.reduceMul, Nat.reduceLT, Int.reduceEq, Int.reduceLT, Int.reduceLE, Int.reduceBEq, Int.reduceBNe, Int.reduceToNat, Int.reduceNeg, Int.reduceSub, Int.reduceAdd]
        refine loopK (fun q s => ∃ (m : Nat), s = ⟨[(0, .sl (row.map dayI)), (5, .ptr e 0), (6, .rw g7 1 0 P7.length), (7, .lit (.int .i64 was)), (8, .lit (.int .i64 (i : Int))), (12, .lit (.int .i64 (leastP D7.now (P7.take m)))), (13, .lit (.int .i64 (m : Int)))], H7, n7⟩ ∧ m ≤ P7.length ∧ q = P7.length - m) _ [0, 5, 6, 7, 8, 12, 13] ⟨0, rfl, Nat.zero_le _, rfl⟩ ?_
        rintro q _ ⟨m, rfl, hm, rfl⟩
        by_cases hml : m < P7.length
        · have hml' : (m : Int) < (P7.length : Int) := by omega
          obtain ⟨v, hv⟩ : ∃ v, P7[m]? = some v := ⟨_, List.getElem?_eq_getElem hml⟩
          have hwm := wrap_nat0 (k := m) (by omega)
          have hsn : leastP D7.now (P7.take (m + 1)) = if 0 < v then (if v < leastP D7.now (P7.take m) then v else leastP D7.now (P7.take m)) else leastP D7.now (P7.take m) := by
            rw [List.take_add_one, hv, ← leastP_snoc]; rfl
          obtain ⟨w, hw⟩ : ∃ w, leastP D7.now (P7.take m) = w := ⟨_, rfl⟩
          rw [hw] at hsn ⊢
          by_cases hv0 : v > 0
          · have hv0' : 0 < v := hv0
            by_cases hvw : v < w
            · simp only [hv0', hvw, if_true] at hsn
              simp only [push_cast, Nat.reduceBEq, Nat.reduceAdd, Nat.reduceEqDiff, reduceCtorEq, Nat.reduceLeDiff, Nat.reduceSub, Nat.reduceMul, Nat.reduceLT, Int.reduceEq, Int.reduceLT, Int.reduceLE, Int.reduceBEq, Int.reduceBNe, Int.reduceToNat, Int.reduceNeg, Int.reduceSub, Int.reduceAdd, hml, hml', hg7, hv, intI, hv0, hv0', hvw, hwm]
              exact ⟨_, by omega, m + 1, by rw [hsn]; rfl, hml, rfl⟩
            · simp only [hv0', hvw, if_true, if_false] at hsn
              simp only [push_cast, Nat.reduceBEq, Nat.reduceAdd, Nat.reduceEqDiff, reduceCtorEq, Nat.reduceLeDiff, Nat.reduceSub, Nat.reduceMul, Nat.reduceLT, Int.reduceEq, Int.reduceLT, Int.reduceLE, Int.reduceBEq, Int.reduceBNe, Int.reduceToNat, Int.reduceNeg, Int.reduceSub, Int.reduceAdd, hml, hml', hg7, hv, intI, hv0, hv0', hvw, hwm]
              exact ⟨_, by omega, m + 1, by rw [hsn]; rfl, hml, rfl⟩
          · have hv0' : ¬ 0 < v := hv0
            simp only [hv0', if_false] at hsn
            simp only [push_cast, Nat.reduceBEq, Nat.reduceAdd, Nat.reduceEqDiff, reduceCtorEq, Nat.reduceLeDiff, Nat.reduceSub, Nat.reduceMul, Nat.reduceLT, Int.reduceEq, Int.reduceLT, Int.reduceLE, Int.reduceBEq, Int.reduceBNe, Int.reduceToNat, Int.reduceNeg, Int.reduceSub, Int.reduceAdd, hml, hml', hg7, hv, intI, hv0, hv0', hwm]
            exact ⟨_, by omega, m + 1, by rw [hsn]; rfl, hml, rfl⟩
        · have hme : m = P7.length := by omega
          have hmn : ¬ (m : Int) < (P7.length : Int) := by omega
          rw [hme, List.take_length, hz]
          simp only [push_cast, Nat.reduceBEq, Nat.reduceAdd, Nat.reduceEqDiff, reduceCtorEq, Nat.reduceLeDiff, Nat.reduceSub, Nat.reduceMul, Nat.reduceLT, Int.reduceEq, Int.reduceLT, Int.reduceLE, Int.reduceBEq, Int.reduceBNe, Int.reduceToNat, Int.reduceNeg, Int.reduceSub, Int.reduceAdd, show ¬ P7.length < P7.length from Nat.lt_irrefl _, show ¬ (P7.length : Int) < (P7.length : Int) from Int.lt_irrefl _]
          refine callH (live_c h7 hnow7 (by omega)) ?_
          rintro _ H9 n9 ⟨gl, rfl, hl1, hl2, hlr, k9⟩
          have hl1 : n7 ≤ gl := hl1
          have k9 : ∀ j, j < n7 → H9 j = H7 j := k9
          have h9 := h7.frame (H' := H9) (n' := n9) (by omega) fun j hj => k9 j (h7.lt j hj)
          have hg9 : H9 g7 = _ := (k9 g7 hgn7).trans hg7
          simp only [push_cast, Nat.reduceBEq, Nat.reduceAdd, Nat.reduceEqDiff, reduceCtorEq, Nat.reduceLeDiff, Nat.reduceSub, Nat.reduceMul, Nat.reduceLT, Int.reduceEq, Int.reduceLT, Int.reduceLE, Int.reduceBEq, Int.reduceBNe, Int.reduceToNat, Int.reduceNeg, Int.reduceSub, Int.reduceAdd]
          refine callHD (oldest_c h9 hzo) ?_
          rintro _ HA nA ⟨rfl, hnA, kA⟩
          have hnA : n9 ≤ nA := hnA
          have kA : ∀ j, j < n9 → HA j = H9 j := kA
          have hA := h9.frame (H' := HA) (n' := nA) hnA fun j hj => kA j (h9.lt j hj)
          have hgA : HA g7 = _ := (kA g7 (by omega)).trans hg9
          have hlA : HA gl = some (.row true 3 (D7.live.map intI)) := (kA gl hl2).trans hlr
          obtain ⟨L, hL⟩ : ∃ L, D7.eras.length = L + 1 := ⟨D7.eras.length - 1, by omega⟩
          have hlive : (D7.live.map intI)[L]? = some [.lit (.int .i64 (D7.now : Int))] := by
            unfold EpD.live
            rw [List.getElem?_map, List.getElem?_map, List.getElem?_range (by omega), Option.map_some, Option.map_some]
            show some (intI ((D7.lo + L : Nat) : Int)) = some (intI (D7.now : Int))
            rw [show D7.lo + L = D7.now by omega]
          have g1 : ¬ z < was := by omega
          have g2 : ((L : Int) + 1 == 0) = false := beq_eq_false_iff_ne.2 (by omega)
          have w1 : IntKind.i64.wrap ((L : Int) + 1 - 1) = (L : Int) := by rw [show (L : Int) + 1 - 1 = (L : Int) by omega]; exact IntWalk.i64_in _ (by omega)
          have w2 : IntKind.i64.wrap ((D7.now : Int) - z) = (D7.now : Int) - z := IntWalk.i64_in _ (by omega)
          have w3 : IntKind.i64.wrap ((D7.now : Int) - z + 1) = (D7.now : Int) - z + 1 := IntWalk.i64_in _ (by omega)
          have g3 : ¬ (L : Int) + 1 < (D7.now : Int) - z + 1 := by omega
          have g4 : (L : Int) < (L : Int) + 1 := by omega
          rw [hL]
          rw [Hv.contD_at]
          refine ⟨by simp only [push_cast, Nat.reduceBEq, Nat.reduceAdd, Nat.reduceEqDiff, reduceCtorEq, Nat.reduceLeDiff, Nat.reduceSub, Nat.reduceMul, Nat.reduceLT, Int.reduceEq, Int.reduceLT, Int.reduceLE, Int.reduceBEq, Int.reduceBNe, Int.reduceToNat, Int.reduceNeg, Int.reduceSub, Int.reduceAdd, hlA, hlive, g1, g2, g3, g4, w1, w2, w3], ?_⟩
          simp only [push_cast, Nat.reduceBEq, Nat.reduceAdd, Nat.reduceEqDiff, reduceCtorEq, Nat.reduceLeDiff, Nat.reduceSub, Nat.reduceMul, Nat.reduceLT, Int.reduceEq, Int.reduceLT, Int.reduceLE, Int.reduceBEq, Int.reduceBNe, Int.reduceToNat, Int.reduceNeg, Int.reduceSub, Int.reduceAdd, hlA, hlive, g1, g2, g3, g4, w1, w2, w3]
          refine callHD (now_c hA) ?_
          rintro r HB nB ⟨hr, hH, hn⟩
          rw [hr, hH, hn]
          rw [Hv.contD_at]
          refine ⟨by simp only [push_cast, Nat.reduceBEq, Nat.reduceAdd, Nat.reduceEqDiff, reduceCtorEq, Nat.reduceLeDiff, Nat.reduceSub, Nat.reduceMul, Nat.reduceLT, Int.reduceEq, Int.reduceLT, Int.reduceLE, Int.reduceBEq, Int.reduceBNe, Int.reduceToNat, Int.reduceNeg, Int.reduceSub, Int.reduceAdd, hlA, hlive, g1, g2, g3, g4, w1, w2, w3], ?_⟩
          simp only [push_cast, Nat.reduceBEq, Nat.reduceAdd, Nat.reduceEqDiff, reduceCtorEq, Nat.reduceLeDiff, Nat.reduceSub, Nat.reduceMul, Nat.reduceLT, Int.reduceEq, Int.reduceLT, Int.reduceLE, Int.reduceBEq, Int.reduceBNe, Int.reduceToNat, Int.reduceNeg, Int.reduceSub, Int.reduceAdd, hlA, hlive, g1, g2, g3, g4, w1, w2, w3]
          refine callHD (now_c hA) ?_
          rintro r HC nC ⟨hr, hH, hn⟩
          rw [hr, hH, hn]
          rw [Hv.contD_at]
          refine ⟨by simp only [push_cast, Nat.reduceBEq, Nat.reduceAdd, Nat.reduceEqDiff, reduceCtorEq, Nat.reduceLeDiff, Nat.reduceSub, Nat.reduceMul, Nat.reduceLT, Int.reduceEq, Int.reduceLT, Int.reduceLE, Int.reduceBEq, Int.reduceBNe, Int.reduceToNat, Int.reduceNeg, Int.reduceSub, Int.reduceAdd, hlA, hlive, g1, g2, g3, g4, w1, w2, w3], ?_⟩
          simp only [push_cast, Nat.reduceBEq, Nat.reduceAdd, Nat.reduceEqDiff, reduceCtorEq, Nat.reduceLeDiff, Nat.reduceSub, Nat.reduceMul, Nat.reduceLT, Int.reduceEq, Int.reduceLT, Int.reduceLE, Int.reduceBEq, Int.reduceBNe, Int.reduceToNat, Int.reduceNeg, Int.reduceSub, Int.reduceAdd, hlA, hlive, g1, g2, g3, g4, w1, w2, w3, hwi]
          exact ⟨_, by omega, i + 1, z, HA, nA, S7, N7, D7, P7, g7, rfl, by omega, rfl, hA, by rw [← hz]; exact hS7.next hok7 h7.pnOk.keys, hgA, by omega, hgS7⟩
    · simp only [push_cast, Nat.reduceBEq, Nat.reduceAdd, Nat.reduceEqDiff, reduceCtorEq, Nat.reduceLeDiff, Nat.reduceSub, Nat.reduceMul, Nat.reduceLT, Int.reduceEq, Int.reduceLT, Int.reduceLE, Int.reduceBEq, Int.reduceBNe, Int.reduceToNat, Int.reduceNeg, Int.reduceSub, Int.reduceAdd, hir, show (i : Int) < (row.length : Int) by omega, show ¬ (i : Int) < 100 by omega]
  · simp only [push_cast, Nat.reduceBEq, Nat.reduceAdd, Nat.reduceEqDiff, reduceCtorEq, Nat.reduceLeDiff, Nat.reduceSub, Nat.reduceMul, Nat.reduceLT, Int.reduceEq, Int.reduceLT, Int.reduceLE, Int.reduceBEq, Int.reduceBNe, Int.reduceToNat, Int.reduceNeg, Int.reduceSub, Int.reduceAdd, hir, show ¬ (i : Int) < (row.length : Int) by omega]
end Go.Proofs.Ytndojmpgadbefaa
