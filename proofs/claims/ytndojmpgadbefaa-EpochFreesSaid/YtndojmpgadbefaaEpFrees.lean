/- Chapter 12's statement EpochFrees, by the walk over a heap. -/
import Derived.Test.YtndojmpgadbefaaEpFreP
import Derived.Test.YtndojmpgadbefaaEpDay
set_option linter.unusedVariables false
set_option linter.unusedSimpArgs false
namespace Go.Proofs.Ytndojmpgadbefaa
open Go Go.RowKit Hv
set_option maxRecDepth 20000
set_option maxHeartbeats 4000000
def noteI (x : NoteD) : List AV := [.lit (.int .i64 (x.ep : Int)), .lit (.int .i64 (x.reg : Int)), .lit (.int .i64 (x.gen : Int)), .lit (.int .i64 (x.off : Int)), .lit (.int .i64 (x.len : Int))]
theorem ints1_h {H : Hp} {n g g' : Nat} {z : Int} (hg : H g = some (.row true 3 [[.lit (.int .i64 z)]])) (hg' : H g' = some (.row false 3 [[.lit (.int .i64 z)]])) :
    HCalls Try.prog 36 [.rw g 1 0 1, .rw g' 1 0 1] H n fun r H' n' => r = .lit (.bool true) ∧ H' = H ∧ n' = n := by
  refine hcallsC_of (rs := [.tmp 4]) ⟨[0, 1, 4, 5, 10, 14, 25], [], [], [(6, [(0, [], []), (1, [], []), (2, [], []), (3, [], []), (4, [], []), (5, [], []), (6, [], []), (7, [], []), (8, [], [])])]⟩ TOk mixed Try.func36 rfl rfl (by kernel_rfl) (by kernel_rfl) rfl ?_
  simp only [push_cast, Nat.reduceBEq, Nat.reduceAdd, Nat.reduceEqDiff, reduceCtorEq, Nat.reduceLeDiff, Nat.reduceSub, Nat.reduceMul, Nat.reduceLT, Int.reduceEq, Int.reduceLT, Int.reduceLE, Int.reduceBEq, Int.reduceBNe, Int.reduceToNat, Int.reduceNeg, Int.reduceSub, Int.reduceAdd]
  refine loopK (fun q s => (s = ⟨[(0, .rw g 1 0 1), (1, .rw g' 1 0 1), (5, .lit (.int .i64 0))], H, n⟩ ∧ q = 1) ∨ (s = ⟨[(0, .rw g 1 0 1), (1, .rw g' 1 0 1), (5, .lit (.int .i64 1))], H, n⟩ ∧ q = 0)) _ [0, 1, 5] (.inl ⟨rfl, rfl⟩) ?_
  have w1 : IntKind.i64.wrap 1 = 1 := by rfl
  rintro q _ (⟨rfl, rfl⟩ | ⟨rfl, rfl⟩)
  · simp only [push_cast, Nat.reduceBEq, Nat.reduceAdd, Nat.reduceEqDiff, reduceCtorEq, Nat.reduceLeDiff, Nat.reduceSub, Nat.reduceMul, Nat.reduceLT, Int.reduceEq, Int.reduceLT, Int.reduceLE, Int.reduceBEq, Int.reduceBNe, Int.reduceToNat, Int.reduceNeg, Int.reduceSub, Int.reduceAdd, hg, hg', w1]
    refine ⟨0, by omega, ?_⟩
    first | exact rfl | exact .inr rfl | exact .inr ⟨rfl, rfl⟩
  · simp only [push_cast, Nat.reduceBEq, Nat.reduceAdd, Nat.reduceEqDiff, reduceCtorEq, Nat.reduceLeDiff, Nat.reduceSub, Nat.reduceMul, Nat.reduceLT, Int.reduceEq, Int.reduceLT, Int.reduceLE, Int.reduceBEq, Int.reduceBNe, Int.reduceToNat, Int.reduceNeg, Int.reduceSub, Int.reduceAdd, show ¬ (1 : Int) < 1 by decide]
theorem isOldest_ex (D : EpD) : ∃ z, IsOldest D z := by
  have key : ∀ (l : List (Ent Int Int)) (now : Int), ∃ z, z ≤ now ∧ (∀ x ∈ l, z ≤ x.val) ∧ (z = now ∨ ∃ x ∈ l, z = x.val) := by
    intro l
    induction l with
    | nil => intro now; exact ⟨now, Int.le_refl _, fun x hx => absurd hx List.not_mem_nil, .inl rfl⟩
    | cons a l ih =>
      intro now
      obtain ⟨z, h1, h2, h3⟩ := ih now
      by_cases ha : a.val < z
      · refine ⟨a.val, by omega, fun x hx => ?_, .inr ⟨a, List.mem_cons_self, rfl⟩⟩
        rcases List.mem_cons.1 hx with rfl | hx
        · exact Int.le_refl _
        · have := h2 x hx; omega
      · refine ⟨z, h1, fun x hx => ?_, ?_⟩
        · rcases List.mem_cons.1 hx with rfl | hx
          · omega
          · exact h2 x hx
        · rcases h3 with h3 | ⟨x, hx, h3⟩
          · exact .inl h3
          · exact .inr ⟨x, List.mem_cons_of_mem _ hx, h3⟩
  obtain ⟨z, h1, h2, h3⟩ := key D.pins D.now
  exact ⟨z, h1, h2, h3⟩
theorem EpochFrees_h (row : List DayD) : Hv.ACalls Try.prog 7 [.sl (row.map dayI)] (.lit (.bool true)) := by
  refine acallsC_of (rs := [.tmp 2]) ⟨[0, 2, 3, 4, 5, 6, 7, 8, 9, 10, 11, 12, 13, 14, 15, 16, 17, 18, 19, 20, 22, 23, 25, 31, 38, 47, 54, 76, 81, 96, 97, 100, 118, 122, 128, 139, 181, 185, 198, 217], [39], [], [(16, [(0, [], []), (1, [], []), (2, [], []), (3, [], []), (4, [], []), (5, [], []), (6, [], []), (7, [], []), (8, [], []), (9, [], []), (10, [], []), (11, [], []), (12, [], []), (13, [], []), (14, [], []), (15, [], [14, 13, 5, 12, 4, 11, 3, 10, 1, 2, 9, 8, 6, 7]), (16, [], [0, 15, 14, 13, 5, 12, 4, 11, 3, 10, 1, 2, 9, 8, 6, 7]), (17, [], []), (18, [], []), (19, [], []), (20, [3, 5, 8, 10, 11], []), (21, [], [20, 18, 16, 0, 1, 2, 3, 4, 5, 6, 7, 8, 9, 10, 11, 12, 13, 14, 15, 17]), (22, [], [19, 21, 0, 1, 2, 3, 4, 5, 6, 7, 8, 9, 10, 11, 12, 13, 14, 15, 16, 17, 18, 20])]), (36, [(0, [], []), (1, [], []), (4, [], []), (5, [], []), (6, [], []), (7, [], []), (2, [6, 7], [0, 1]), (3, [], []), (8, [], [])])]⟩ TOk mixed Try.func7 rfl rfl (by kernel_rfl) (by kernel_rfl) rfl (by simp [noId_days]) (.lit _) ?_
  simp only [push_cast, Nat.reduceBEq, Nat.reduceAdd, Nat.reduceEqDiff, reduceCtorEq, Nat.reduceLeDiff, Nat.reduceSub, Nat.reduceMul, Nat.reduceLT, Int.reduceEq, Int.reduceLT, Int.reduceLE, Int.reduceBEq, Int.reduceBNe, Int.reduceToNat, Int.reduceNeg, Int.reduceSub, Int.reduceAdd]
  refine callH ages_h ?_
  rintro _ H0 n0 ⟨rfl, hn0, _⟩
  simp only [push_cast, Nat.reduceBEq, Nat.reduceAdd, Nat.reduceEqDiff, reduceCtorEq, Nat.reduceLeDiff, Nat.reduceSub, Nat.reduceMul, Nat.reduceLT, Int.reduceEq, Int.reduceLT, Int.reduceLE, Int.reduceBEq, Int.reduceBNe, Int.reduceToNat, Int.reduceNeg, Int.reduceSub, Int.reduceAdd]
  refine callH (newPool_c (size := 256) (K := 100) (by decide) (by decide) (by decide) (by decide)) ?_
  rintro _ H1 n1 ⟨p, S1, rfl, hp1, hn1, hS1, k1⟩
  simp only [push_cast, Nat.reduceBEq, Nat.reduceAdd, Nat.reduceEqDiff, reduceCtorEq, Nat.reduceLeDiff, Nat.reduceSub, Nat.reduceMul, Nat.reduceLT, Int.reduceEq, Int.reduceLT, Int.reduceLE, Int.reduceBEq, Int.reduceBNe, Int.reduceToNat, Int.reduceNeg, Int.reduceSub, Int.reduceAdd]
  refine callH (newEp_c hp1 (l := landZ) rfl rfl (by decide)) ?_
  rintro _ H2 n2 ⟨e, S2, rfl, ⟨N2, h2, hN2⟩, hn2, k2⟩
  obtain ⟨D0, hD0⟩ : ∃ D, D = (epZ (poolZ 256 100)).adv 0 landZ := ⟨_, rfl⟩
  rw [← hD0] at h2
  have hI0 : FreI 0 D0 0 (List.replicate 200 false) [] := by rw [hD0]; exact freI_first
  clear hD0
  have q0 : (1 : Int) * 200 ≤ 140737488355328 := by decide
  simp only [push_cast, Nat.reduceBEq, Nat.reduceAdd, Nat.reduceEqDiff, reduceCtorEq, Nat.reduceLeDiff, Nat.reduceSub, Nat.reduceMul, Nat.reduceLT, Int.reduceEq, Int.reduceLT, Int.reduceLE, Int.reduceBEq, Int.reduceBNe, Int.reduceToNat, Int.reduceNeg, Int.reduceSub, Int.reduceAdd, q0]
  obtain ⟨H3, hH3⟩ : ∃ Y, Y = upd (upd H2 n2 (some (.row true 4 (List.replicate 200 [.lit (.bool false)])))) (n2 + 1) (some (.row false 51 [])) := ⟨_, rfl⟩
  rw [← hH3]
  have h3 : EpH H3 (n2 + 1 + 1) S2 e N2 D0 := by rw [hH3]; exact h2.frame (by omega) fun j hj => by have := h2.lt j hj; rw [upd_other (by omega), upd_other (by omega)]
  have hgg3 : H3 n2 = some (.row true 4 ((List.replicate 200 false).map boolI)) := by rw [hH3, upd_other (by omega), upd_same, List.map_replicate]; rfl
  have hgx3 : H3 (n2 + 1) = some (.row false 51 (([] : List NoteD).map noteI)) := by rw [hH3, upd_same]; rfl
  have hS31 : ¬ S2 n2 := fun hs => by have := h2.lt _ hs; omega
  have hS32 : ¬ S2 (n2 + 1) := fun hs => by have := h2.lt _ hs; omega
  have hb1 : n2 < n2 + 1 + 1 := by omega
  clear hH3
  refine loopK (fun q s => ∃ (i np : Nat) (H4 : Hp) (n4 : Nat) (S4 : Nat → Prop) (N4 : EpN) (D : EpD) (G : List Bool) (X : List NoteD) (gg gx : Nat), s = ⟨[(0, .sl (row.map dayI)), (3, .ptr p 0), (5, .ptr e 0), (6, .lit (.int .i64 (np : Int))), (7, .rw gg 1 0 200), (8, .rw gx 5 0 X.length), (9, .lit (.int .i64 (i : Int)))], H4, n4⟩ ∧ i ≤ 100 ∧ q = 100 - i ∧ EpH H4 n4 S4 e N4 D ∧ N4.p = p ∧ FreI i D np G X ∧ X.length ≤ i ∧ H4 gg = some (.row true 4 (G.map boolI)) ∧ gg < n4 ∧ ¬ S4 gg ∧ H4 gx = some (.row false 51 (X.map noteI)) ∧ gx < n4 ∧ ¬ S4 gx) _ [0, 3, 5, 6, 7, 8, 9]
    ⟨0, 0, H3, n2 + 1 + 1, S2, N2, D0, List.replicate 200 false, [], n2, n2 + 1, rfl, by omega, rfl, h3, hN2, hI0, Nat.le_refl _, hgg3, hb1, hS31, hgx3, Nat.lt_succ_self _, hS32⟩ ?_
  rintro q _ ⟨i, np, H4, n4, S4, N4, D, G, X, gg, gx, rfl, hi, rfl, h4, hNp, hI, hXi, hgg, hggn, hggS, hgx, hgxn, hgxS⟩
  by_cases hend : i < row.length ∧ i < 100
  · obtain ⟨hir, hi100⟩ := hend
    have hir' : (i : Int) < (row.length : Int) := by omega
    have hi' : (i : Int) < 100 := by omega
    obtain ⟨d, hd⟩ : ∃ d, row[i]? = some d := ⟨_, List.getElem?_eq_getElem hir⟩
    have hwi := wrap_nat0 (k := i) (by omega)
    have hnpB := hI.npB
    have hwp := wrap_nat0 (k := np) (by omega)
    have hlast := hI.last
    have kn := h4.pnOk.keys
    have hnowB := hI.nowB
    have hcnt := hI.w.ok.cnt
    have hlo1 := hI.w.ok.pos.1
    by_cases hc1 : d.call = 1
    · have hfew := hI.w.ok.pinsFew kn
      have hz1 : ((D.last + 1 : Nat) : Int) = (np : Int) + 1 := by omega
      simp only [push_cast, Nat.reduceBEq, Nat.reduceAdd, Nat.reduceEqDiff, reduceCtorEq, Nat.reduceLeDiff, Nat.reduceSub, Nat.reduceMul, Nat.reduceLT, Int.reduceEq, Int.reduceLT, Int.reduceLE, Int.reduceBEq, Int.reduceBNe, Int.reduceToNat, Int.reduceNeg, Int.reduceSub, Int.reduceAdd, hir, hir', hi', hd, dayI, hc1, hwp]
      refine callH (pin_c h4 hI.now1 (by omega) (by omega)) ?_
      rintro _ H6 n6 ⟨rfl, S6, ⟨N6, h6, hN6⟩, hn6, k6⟩
      have hn6 : n4 ≤ n6 := hn6
      simp only [push_cast, Nat.reduceBEq, Nat.reduceAdd, Nat.reduceEqDiff, reduceCtorEq, Nat.reduceLeDiff, Nat.reduceSub, Nat.reduceMul, Nat.reduceLT, Int.reduceEq, Int.reduceLT, Int.reduceLE, Int.reduceBEq, Int.reduceBNe, Int.reduceToNat, Int.reduceNeg, Int.reduceSub, Int.reduceAdd, hz1, hwi]
      exact ⟨_, by omega, i + 1, np + 1, H6, n6, S6, N6, _, G, X, gg, gx, rfl, by omega, rfl, h6, hN6.trans hNp, hI.pin (by omega) h6.ok, by omega, (k6 gg hggn hggS).1.trans hgg, by omega, (k6 gg hggn hggS).2, (k6 gx hgxn hgxS).1.trans hgx, by omega, (k6 gx hgxn hgxS).2⟩
    · have hcb1 : (d.call == 1) = false := beq_eq_false_iff_ne.2 hc1
      by_cases hc2 : d.call = 2
      · by_cases hnp : np = 0
        · subst hnp
          simp only [push_cast, Nat.reduceBEq, Nat.reduceAdd, Nat.reduceEqDiff, reduceCtorEq, Nat.reduceLeDiff, Nat.reduceSub, Nat.reduceMul, Nat.reduceLT, Int.reduceEq, Int.reduceLT, Int.reduceLE, Int.reduceBEq, Int.reduceBNe, Int.reduceToNat, Int.reduceNeg, Int.reduceSub, Int.reduceAdd, hir, hir', hi', hd, dayI, hcb1, hc2, show ¬ (0 : Int) > 0 by decide, hwi]
          exact ⟨_, by omega, i + 1, 0, H4, n4, S4, N4, D, G, X, gg, gx, rfl, by omega, rfl, h4, hNp, hI.up, by omega, hgg, hggn, hggS, hgx, hgxn, hgxS⟩
        · obtain ⟨m, hm, hm1, hm2⟩ := u64_mod d.n (K := np) (by omega) (by omega)
          have hnp' : (np : Int) > 0 := by omega
          have hup : IntKind.u64.wrap (np : Int) = (np : Int) := by simp [IntKind.wrap, IntKind.bits, IntKind.signed]; omega
          have hw1 : IntKind.i64.wrap (1 + (m : Int)) = ((1 + m : Nat) : Int) := by rw [show (1 : Int) + (m : Int) = ((1 + m : Nat) : Int) by omega]; exact IntWalk.i64_in _ (by omega)
          have hne : ¬ (np : Int) = 0 := by omega
          have h200 : (1 : Int) + (m : Int) < 200 := by omega
          have hto : ((1 : Int) + (m : Int)).toNat = 1 + m := by omega
          have hset : (G.map boolI).set (1 + m) [.lit (.bool true)] = (G.set (1 + m) true).map boolI := by rw [List.map_set]; rfl
          have hpos : (0 : Int) ≤ 1 + (m : Int) := by omega
          rcases hI.look (by omega) kn (k := 1 + m) (by omega) (by omega) with ⟨hG, hlk⟩ | ⟨hG, v, hlk⟩
          · have hx : (G.map boolI)[1 + m]? = some [.lit (.bool true)] := by rw [List.getElem?_map, hG]; rfl
            rw [show ((1 + m : Nat) : Int) = 1 + (m : Int) by omega] at hlk
            simp only [push_cast, Nat.reduceBEq, Nat.reduceAdd, Nat.reduceEqDiff, reduceCtorEq, Nat.reduceLeDiff, Nat.reduceSub, Nat.reduceMul, Nat.reduceLT, Int.reduceEq, Int.reduceLT, Int.reduceLE, Int.reduceBEq, Int.reduceBNe, Int.reduceToNat, Int.reduceNeg, Int.reduceSub, Int.reduceAdd, hir, hir', hi', hd, dayI, hcb1, hc2, hnp', hm1, hm2, hup, hne, hw1]
            refine callH (unpin_no h4 hlk) ?_
            rintro _ H6 n6 ⟨rfl, hn6, k6⟩
            have hn6 : n4 ≤ n6 := hn6
            have hg6 : H6 gg = _ := (k6 gg hggn).trans hgg
            have hGs : G.set (1 + m) true = G := set_same hG
            have h6 : EpH (upd H6 gg (some (.row true 4 ((G.set (1 + m) true).map boolI)))) n6 S4 e N4 D := h4.frame hn6 fun j hj => (upd_other (fun x : gg = j => hggS (by rw [x]; exact hj))).trans (k6 j (h4.lt j hj))
            have hgxg : gx ≠ gg := heap_ne hgx hgg (by intro e; cases e)
            simp only [push_cast, Nat.reduceBEq, Nat.reduceAdd, Nat.reduceEqDiff, reduceCtorEq, Nat.reduceLeDiff, Nat.reduceSub, Nat.reduceMul, Nat.reduceLT, Int.reduceEq, Int.reduceLT, Int.reduceLE, Int.reduceBEq, Int.reduceBNe, Int.reduceToNat, Int.reduceNeg, Int.reduceSub, Int.reduceAdd, hg6, h200, hto, hpos, hx, hset, hwi]
            exact ⟨_, by omega, i + 1, np, _, n6, S4, N4, D, G.set (1 + m) true, X, gg, gx, rfl, by omega, rfl, h6, hNp, by rw [hGs]; exact hI.up, by omega, upd_same _ _ _, by omega, hggS, (upd_other (Ne.symm hgxg)).trans ((k6 gx hgxn).trans hgx), by omega, hgxS⟩
          · have hx : (G.map boolI)[1 + m]? = some [.lit (.bool false)] := by rw [List.getElem?_map, hG]; rfl
            have hlk0 := hlk
            rw [show ((1 + m : Nat) : Int) = 1 + (m : Int) by omega] at hlk
            simp only [push_cast, Nat.reduceBEq, Nat.reduceAdd, Nat.reduceEqDiff, reduceCtorEq, Nat.reduceLeDiff, Nat.reduceSub, Nat.reduceMul, Nat.reduceLT, Int.reduceEq, Int.reduceLT, Int.reduceLE, Int.reduceBEq, Int.reduceBNe, Int.reduceToNat, Int.reduceNeg, Int.reduceSub, Int.reduceAdd, hir, hir', hi', hd, dayI, hcb1, hc2, hnp', hm1, hm2, hup, hne, hw1]
            refine callH (unpin_c h4 hlk) ?_
            rintro _ H6 n6 ⟨rfl, S6, ⟨N6, h6, hN6⟩, hn6, k6⟩
            have hn6 : n4 ≤ n6 := hn6
            have hg6 : H6 gg = _ := (k6 gg hggn hggS).1.trans hgg
            have hS6 := (k6 gg hggn hggS).2
            have h6b : EpH (upd H6 gg (some (.row true 4 ((G.set (1 + m) true).map boolI)))) n6 S6 e N6 _ := h6.frame (Nat.le_refl _) fun j hj => upd_other (fun x : gg = j => hS6 (by rw [x]; exact hj))
            have hgxg : gx ≠ gg := heap_ne hgx hgg (by intro e; cases e)
            have hIu := hI.unpin kn (k := 1 + m) (by omega) (by omega) (by omega) (by rw [show ((1 + m : Nat) : Int) = 1 + (m : Int) by omega]; exact h6.ok)
            rw [show ((1 + m : Nat) : Int) = 1 + (m : Int) by omega] at hIu
            simp only [push_cast, Nat.reduceBEq, Nat.reduceAdd, Nat.reduceEqDiff, reduceCtorEq, Nat.reduceLeDiff, Nat.reduceSub, Nat.reduceMul, Nat.reduceLT, Int.reduceEq, Int.reduceLT, Int.reduceLE, Int.reduceBEq, Int.reduceBNe, Int.reduceToNat, Int.reduceNeg, Int.reduceSub, Int.reduceAdd, hg6, h200, hto, hpos, hx, hset, hwi]
            exact ⟨_, by omega, i + 1, np, _, n6, S6, N6, _, G.set (1 + m) true, X, gg, gx, rfl, by omega, rfl, h6b, hN6.trans hNp, hIu, by omega, upd_same _ _ _, by omega, hS6, (upd_other (Ne.symm hgxg)).trans ((k6 gx hgxn hgxS).1.trans hgx), by omega, (k6 gx hgxn hgxS).2⟩
      · have hll : D.pool.lands.length = 256 := hI.w.pk.ll
        by_cases hc5 : d.call = 5
        · obtain ⟨fi, fl, hf1, hf2, hf3, hf4⟩ := hI.w.x.free hll (by omega)
          simp only [push_cast, Nat.reduceBEq, Nat.reduceAdd, Nat.reduceEqDiff, reduceCtorEq, Nat.reduceLeDiff, Nat.reduceSub, Nat.reduceMul, Nat.reduceLT, Int.reduceEq, Int.reduceLT, Int.reduceLE, Int.reduceBEq, Int.reduceBNe, Int.reduceToNat, Int.reduceNeg, Int.reduceSub, Int.reduceAdd, hir, hir', hi', hd, dayI, hcb1, hc5]
          refine callH (advance_c h4 hf1 hf2 hf3 (by omega) (by omega)) ?_
          rintro _ H6 n6 ⟨rfl, S6, ⟨N6, h6, hN6⟩, hn6, k6⟩
          have hn6 : n4 ≤ n6 := hn6
          simp only [push_cast, Nat.reduceBEq, Nat.reduceAdd, Nat.reduceEqDiff, reduceCtorEq, Nat.reduceLeDiff, Nat.reduceSub, Nat.reduceMul, Nat.reduceLT, Int.reduceEq, Int.reduceLT, Int.reduceLE, Int.reduceBEq, Int.reduceBNe, Int.reduceToNat, Int.reduceNeg, Int.reduceSub, Int.reduceAdd, hwi]
          exact ⟨_, by omega, i + 1, np, H6, n6, S6, N6, _, G, X, gg, gx, rfl, by omega, rfl, h6, hN6.trans hNp, hI.adv hf1 hf2 (by omega), by omega, (k6 gg hggn hggS).1.trans hgg, by omega, (k6 gg hggn hggS).2, (k6 gx hgxn hgxS).1.trans hgx, by omega, (k6 gx hgxn hgxS).2⟩
        · by_cases hc6 : d.call = 6
          · obtain ⟨z, hz⟩ := isOldest_ex D
            have hzl := hz.le
            obtain ⟨c, hc, hcl⟩ : ∃ c : Nat, ((D.lo : Int) + c = z ∨ (z ≤ D.lo ∧ c = 0)) ∧ c < D.eras.length := by
              have hnn := hI.now1
              by_cases hzz : z ≤ D.lo
              · refine ⟨0, .inr ⟨hzz, rfl⟩, ?_⟩
                rcases hI.w.ok.pos.2 with h0 | h0
                · omega
                · exact List.length_pos_iff.2 h0
              · exact ⟨(z - D.lo).toNat, .inl (by omega), by omega⟩
            simp only [push_cast, Nat.reduceBEq, Nat.reduceAdd, Nat.reduceEqDiff, reduceCtorEq, Nat.reduceLeDiff, Nat.reduceSub, Nat.reduceMul, Nat.reduceLT, Int.reduceEq, Int.reduceLT, Int.reduceLE, Int.reduceBEq, Int.reduceBNe, Int.reduceToNat, Int.reduceNeg, Int.reduceSub, Int.reduceAdd, hir, hir', hi', hd, dayI, hcb1, hc6]
            refine callH (collect_c h4 hI.now1 hz hc) ?_
            rintro _ H6 n6 ⟨rfl, S6, ⟨N6, h6, hN6⟩, hn6, k6⟩
            have hn6 : n4 ≤ n6 := hn6
            simp only [push_cast, Nat.reduceBEq, Nat.reduceAdd, Nat.reduceEqDiff, reduceCtorEq, Nat.reduceLeDiff, Nat.reduceSub, Nat.reduceMul, Nat.reduceLT, Int.reduceEq, Int.reduceLT, Int.reduceLE, Int.reduceBEq, Int.reduceBNe, Int.reduceToNat, Int.reduceNeg, Int.reduceSub, Int.reduceAdd, hwi]
            exact ⟨_, by omega, i + 1, np, H6, n6, S6, N6, _, G, X, gg, gx, rfl, by omega, rfl, h6, hN6.trans hNp, hI.collect hcl, by omega, (k6 gg hggn hggS).1.trans hgg, by omega, (k6 gg hggn hggS).2, (k6 gx hgxn hgxS).1.trans hgx, by omega, (k6 gx hgxn hgxS).2⟩
          · have hcb2 : (d.call == 2) = false := beq_eq_false_iff_ne.2 hc2
            have hcb5 : (d.call == 5) = false := beq_eq_false_iff_ne.2 hc5
            have hcb6 : (d.call == 6) = false := beq_eq_false_iff_ne.2 hc6
            obtain ⟨mn, hmn, hmn1, hmn2⟩ : ∃ mn : Nat, (if (200 : Int) < (d.data.size : Int) then (200 : Int) else (d.data.size : Int)) = (mn : Int) ∧ mn ≤ 200 ∧ mn ≤ d.data.size := by
              by_cases h : (200 : Int) < (d.data.size : Int)
              · exact ⟨200, by rw [if_pos h]; rfl, Nat.le_refl _, by omega⟩
              · exact ⟨d.data.size, by rw [if_neg h], by omega, Nat.le_refl _⟩
            have hcut : ((0 : Int) ≤ 0 ∧ (0 : Int) ≤ (mn : Int) ∧ (mn : Int) ≤ (d.data.size : Int)) = True := eq_true (by omega)
            have hcut2 : ((0 : Int) ≤ (mn : Int) ∧ (mn : Int) ≤ (d.data.size : Int)) = True := eq_true (by omega)
            have hxs : (d.data.extract 0 mn).size = mn := by rw [ByteArray.size_extract]; omega
            have hadd : (9223372036854775807 < ByteArray.size ⟨#[117]⟩ + (d.data.extract 0 mn).size) = False := eq_false (by rw [hxs]; show ¬ 9223372036854775807 < 1 + mn; omega)
            obtain ⟨u, hu⟩ : ∃ u : ByteArray, (⟨#[117]⟩ : ByteArray) ++ d.data.extract 0 mn = u := ⟨_, rfl⟩
            obtain ⟨b, hb⟩ : ∃ b, u.data.toList = b := ⟨_, rfl⟩
            have hsz : u.size = b.length := by rw [← hb]; exact (Array.length_toList ..).symm
            have hb201 : b.length ≤ 201 := by
              rw [← hsz, ← hu, ByteArray.size_append, hxs]
              show 1 + mn ≤ 201
              omega
            have hbA : bytesA u = b.map byteA := by unfold bytesA; rw [hb]
            have hus : Nat.ble b.length 140737488355328 = true := by rw [Nat.ble_eq]; omega
            obtain ⟨k, hk, hkl⟩ : ∃ k, D.lo + k = D.now ∧ k < D.eras.length := by
              have hnn := hI.now1
              rcases hI.w.ok.pos.2 with h0 | h0
              · omega
              · have := List.length_pos_iff.2 h0
                exact ⟨D.now - D.lo, by omega, by omega⟩
            obtain ⟨r, hr⟩ : ∃ r, D.eras[k]? = some r := ⟨_, List.getElem?_eq_getElem hkl⟩
            obtain ⟨l, hl, ht⟩ := hI.w.ok.reg r (List.mem_of_getElem? hr)
            obtain ⟨hll2, hbb, hR⟩ := hI.retire (b := b) (by omega) hk hr hl ht hb201
            have h4b : EpH (upd H4 n4 (some (.row false 5 (b.map byteA)))) (n4 + 1) S4 e N4 D := h4.frame (by omega) fun j hj => upd_other (by have := h4.lt j hj; omega)
            have hn4S : ¬ S4 n4 := fun hs => by have := h4.lt _ hs; omega
            rw [← stopC_eq (Code.seq (Code.region 17 _ _) _)]
            simp only [push_cast, Nat.reduceBEq, Nat.reduceAdd, Nat.reduceEqDiff, reduceCtorEq, Nat.reduceLeDiff, Nat.reduceSub, Nat.reduceMul, Nat.reduceLT, Int.reduceEq, Int.reduceLT, Int.reduceLE, Int.reduceBEq, Int.reduceBNe, Int.reduceToNat, Int.reduceNeg, Int.reduceSub, Int.reduceAdd, hir, hir', hi', hd, dayI, hcb1, hcb2, hcb5, hcb6, hmn, hcut, hcut2, hmn2, hadd, hu, hsz, hbA, hus, Nat.sub_zero, Int.toNat_natCast]
            have hgxg : gx ≠ gg := heap_ne hgx hgg (by intro e; cases e)
            have q40 : (X.length + 1) * 40 ≤ 140737488355328 := by omega
            rcases hR with ⟨er, her, ha⟩ | ⟨d', o, s0, l', ha, hpk, hgen, hs0, hls, hnew, hI2⟩
            · have her1 : (er == 0) = false := by rcases her with rfl | rfl <;> rfl
              have her2 : ¬ er = 0 := by rcases her with rfl | rfl <;> decide
              refine callHD (retire_bad h4b (g := n4) hk hr hl hll2 (by omega) her ha) ?_
              rintro _ H6 n6 ⟨rfl, S6, ⟨N6, h6, hN6⟩, hn6, k6⟩
              have hn6 : n4 + 1 ≤ n6 := hn6
              have k6 : ∀ j, j < n4 + 1 → ¬ S4 j → H6 j = upd H4 n4 (some (.row false 5 (b.map byteA))) j ∧ ¬ S6 j := k6
              have hgg6 : H6 gg = _ := (k6 gg (by omega) hggS).1.trans ((upd_other (by omega)).trans hgg)
              have hgx6 : H6 gx = _ := (k6 gx (by omega) hgxS).1.trans ((upd_other (by omega)).trans hgx)
              have h6b : ∀ o1 o2, EpH (upd (upd H6 n6 o1) n6 o2) (n6 + 1) S6 e N6 D := fun o1 o2 => h6.frame (by omega) fun j hj => by have := h6.lt j hj; rw [upd_other (by omega), upd_other (by omega)]
              unfold note0
              rw [Hv.contD_at]
              refine ⟨by simp only [push_cast, Nat.reduceBEq, Nat.reduceAdd, Nat.reduceEqDiff, reduceCtorEq, Nat.reduceLeDiff, Nat.reduceSub, Nat.reduceMul, Nat.reduceLT, Int.reduceEq, Int.reduceLT, Int.reduceLE, Int.reduceBEq, Int.reduceBNe, Int.reduceToNat, Int.reduceNeg, Int.reduceSub, Int.reduceAdd], ?_⟩
              simp only [push_cast, Nat.reduceBEq, Nat.reduceAdd, Nat.reduceEqDiff, reduceCtorEq, Nat.reduceLeDiff, Nat.reduceSub, Nat.reduceMul, Nat.reduceLT, Int.reduceEq, Int.reduceLT, Int.reduceLE, Int.reduceBEq, Int.reduceBNe, Int.reduceToNat, Int.reduceNeg, Int.reduceSub, Int.reduceAdd, hir, hir', hd, dayI, her1, her2]
              rw [stopC_eq]
              simp only [push_cast, Nat.reduceBEq, Nat.reduceAdd, Nat.reduceEqDiff, reduceCtorEq, Nat.reduceLeDiff, Nat.reduceSub, Nat.reduceMul, Nat.reduceLT, Int.reduceEq, Int.reduceLT, Int.reduceLE, Int.reduceBEq, Int.reduceBNe, Int.reduceToNat, Int.reduceNeg, Int.reduceSub, Int.reduceAdd, her1, her2, hwi]
              exact ⟨_, by omega, i + 1, np, _, n6 + 1, S6, N6, D, G, X, gg, gx, rfl, by omega, rfl, h6b _ _, hN6.trans hNp, hI.up, by omega, by rw [upd_other (by omega), upd_other (by omega)]; exact hgg6, by omega, (k6 gg (by omega) hggS).2, by rw [upd_other (by omega), upd_other (by omega)]; exact hgx6, by omega, (k6 gx (by omega) hgxS).2⟩
            · refine callHD (retire_c h4b (g := n4) hk hr hl hll2 (by omega) ha hpk hgen hs0 hls (m0 := false) (e0 := 5) (upd_same _ _ _) (Nat.lt_succ_self _) hn4S hnew hbb) ?_
              rintro _ H6 n6 ⟨rfl, S6, ⟨N6, h6, hN6⟩, hn6, k6⟩
              have hn6 : n4 + 1 ≤ n6 := hn6
              have k6 : ∀ j, j < n4 + 1 → ¬ S4 j → H6 j = upd H4 n4 (some (.row false 5 (b.map byteA))) j ∧ ¬ S6 j := k6
              have hgg6 : H6 gg = _ := (k6 gg (by omega) hggS).1.trans ((upd_other (by omega)).trans hgg)
              have hgx6 : H6 gx = _ := (k6 gx (by omega) hgxS).1.trans ((upd_other (by omega)).trans hgx)
              have hpk2 : PoolOk (d'.stored s0 (o % d'.size) b) := by obtain ⟨_, pp, _⟩ := h6.pool; exact pp.ok
              have hI3 := hI2 hpk2
              have c1 : (n6 == gx) = false := nb (by omega)
              have c2 : (n6 + 1 == gx) = false := nb (by omega)
              have c3 : (gx == n6) = false := nb (by omega)
              have c4 : (gx == n6 + 1) = false := nb (by omega)
              have c5 : (n6 + 1 == n6) = false := nb (by omega)
              unfold noteA
              rw [Hv.contD_at]
              refine ⟨by simp only [push_cast, Nat.reduceBEq, Nat.reduceAdd, Nat.reduceEqDiff, reduceCtorEq, Nat.reduceLeDiff, Nat.reduceSub, Nat.reduceMul, Nat.reduceLT, Int.reduceEq, Int.reduceLT, Int.reduceLE, Int.reduceBEq, Int.reduceBNe, Int.reduceToNat, Int.reduceNeg, Int.reduceSub, Int.reduceAdd], ?_⟩
              simp only [push_cast, Nat.reduceBEq, Nat.reduceAdd, Nat.reduceEqDiff, reduceCtorEq, Nat.reduceLeDiff, Nat.reduceSub, Nat.reduceMul, Nat.reduceLT, Int.reduceEq, Int.reduceLT, Int.reduceLE, Int.reduceBEq, Int.reduceBNe, Int.reduceToNat, Int.reduceNeg, Int.reduceSub, Int.reduceAdd, hir, hir', hd, dayI]
              rw [stopC_eq]
              simp only [push_cast, Nat.reduceBEq, Nat.reduceAdd, Nat.reduceEqDiff, reduceCtorEq, Nat.reduceLeDiff, Nat.reduceSub, Nat.reduceMul, Nat.reduceLT, Int.reduceEq, Int.reduceLT, Int.reduceLE, Int.reduceBEq, Int.reduceBNe, Int.reduceToNat, Int.reduceNeg, Int.reduceSub, Int.reduceAdd, hgx6, List.length_map, c1, c2, c3, c4, c5, q40, hwi]
              have hSgx := (k6 gx (by omega) hgxS).2
              have hlx : X.length + 1 = (X ++ [(⟨D.now, r.region, l.gen, o, b.length⟩ : NoteD)]).length := by rw [List.length_append]; rfl
              rw [hlx]
              refine ⟨_, by omega, i + 1, np, _, n6 + 1 + 1 + 1, S6, N6, _, G, X ++ [⟨D.now, r.region, l.gen, o, b.length⟩], gg, n6 + 1 + 1, rfl, by omega, rfl, h6.frame (by omega) (fun j hj => ?_), hN6.trans hNp, hI3, by rw [List.length_append]; exact Nat.succ_le_succ hXi, ?_, by omega, (k6 gg (by omega) hggS).2, ?_, by omega, fun hs => ?_⟩
              · have := h6.lt j hj
                rw [upd_other (by omega), upd_other (fun x : gx = j => hSgx (by rw [x]; exact hj)), upd_other (by omega), upd_other (by omega), upd_other (by omega)]
              · rw [upd_other (by omega), upd_other hgxg, upd_other (by omega), upd_other (by omega), upd_other (by omega)]; exact hgg6
              · rw [upd_same, List.map_append]; rfl
              · have := h6.lt _ hs; omega
  · have hgo : (i : Int) < (row.length : Int) → ¬ (i : Int) < 100 := fun h h' => hend ⟨by omega, by omega⟩
    have hnpB := hI.npB
    have hU := hI.let
    rw [← stopC_eq (Code.seq (Code.region 38 _ _) _)]
    refine' meetG (fun meet => _) _
    rotate_left
    · by_cases hir : i < row.length
      · have hir' : (i : Int) < (row.length : Int) := Int.ofNat_lt.2 hir
        have hn' := hgo hir'
        simp only [push_cast, Nat.reduceBEq, Nat.reduceAdd, Nat.reduceEqDiff, reduceCtorEq, Nat.reduceLeDiff, Nat.reduceSub, Nat.reduceMul, Nat.reduceLT, Int.reduceEq, Int.reduceLT, Int.reduceLE, Int.reduceBEq, Int.reduceBNe, Int.reduceToNat, Int.reduceNeg, Int.reduceSub, Int.reduceAdd, hir, hir', hn']
        exact meet
      · have hir' : ¬ (i : Int) < (row.length : Int) := fun h => hir (Int.ofNat_lt.1 h)
        simp only [push_cast, Nat.reduceBEq, Nat.reduceAdd, Nat.reduceEqDiff, reduceCtorEq, Nat.reduceLeDiff, Nat.reduceSub, Nat.reduceMul, Nat.reduceLT, Int.reduceEq, Int.reduceLT, Int.reduceLE, Int.reduceBEq, Int.reduceBNe, Int.reduceToNat, Int.reduceNeg, Int.reduceSub, Int.reduceAdd, hir, hir']
        exact meet
    · refine loopK (fun q s => ∃ (k : Nat) (H5 : Hp) (n5 : Nat) (S5 : Nat → Prop) (N5 : EpN) (D5 : EpD), s = ⟨[(3, .ptr p 0), (5, .ptr e 0), (6, .lit (.int .i64 (np : Int))), (7, .rw gg 1 0 200), (8, .rw gx 5 0 X.length), (15, .lit (.int .i64 (k : Int)))], H5, n5⟩ ∧ 1 ≤ k ∧ k ≤ np + 1 ∧ q = np + 1 - k ∧ EpH H5 n5 S5 e N5 D5 ∧ N5.p = p ∧ FreU k np D5 G ∧ D5.now = D.now ∧ D5.pool = D.pool ∧ H5 gg = some (.row true 4 (G.map boolI)) ∧ gg < n5 ∧ ¬ S5 gg ∧ H5 gx = some (.row false 51 (X.map noteI)) ∧ gx < n5 ∧ ¬ S5 gx) _ [3, 5, 6, 7, 8, 15]
        ⟨1, H4, n4, S4, N4, D, rfl, Nat.le_refl _, Nat.succ_le_succ (Nat.zero_le _), rfl, h4, hNp, hU, rfl, rfl, hgg, hggn, hggS, hgx, hgxn, hgxS⟩ ?_
      rintro q _ ⟨k, H5, n5, S5, N5, D5, rfl, hk1, hk2, rfl, h5, hN5, hU5, hD5n, hD5p, hgg5, hggn5, hggS5, hgx5, hgxn5, hgxS5⟩
      have kn5 := h5.pnOk.keys
      by_cases hkn : k ≤ np
      · have a1 : (k : Int) ≤ (np : Int) := by omega
        have a2 : (k : Int) < 200 := by omega
        have hwk := wrap_nat0 (k := k) (by omega)
        obtain ⟨b, hb⟩ : ∃ b, G[k]? = some b := ⟨_, List.getElem?_eq_getElem (by rw [hI.gl]; omega)⟩
        cases b with
        | true =>
          obtain ⟨hlk, hU6⟩ := hU5.gone hb
          simp only [push_cast, Nat.reduceBEq, Nat.reduceAdd, Nat.reduceEqDiff, reduceCtorEq, Nat.reduceLeDiff, Nat.reduceSub, Nat.reduceMul, Nat.reduceLT, Int.reduceEq, Int.reduceLT, Int.reduceLE, Int.reduceBEq, Int.reduceBNe, Int.reduceToNat, Int.reduceNeg, Int.reduceSub, Int.reduceAdd, hkn, a1, hgg5, a2, hb, boolI]
          refine callHD (unpin_no h5 hlk) ?_
          rintro _ H6 n6 ⟨rfl, hn6, k6⟩
          have hn6 : n5 ≤ n6 := hn6
          have k6 : ∀ j, j < n5 → H6 j = H5 j := k6
          have hg6 : H6 gg = _ := (k6 gg hggn5).trans hgg5
          rw [Hv.contD_at]
          refine ⟨by simp only [push_cast, Nat.reduceBEq, Nat.reduceAdd, Nat.reduceEqDiff, reduceCtorEq, Nat.reduceLeDiff, Nat.reduceSub, Nat.reduceMul, Nat.reduceLT, Int.reduceEq, Int.reduceLT, Int.reduceLE, Int.reduceBEq, Int.reduceBNe, Int.reduceToNat, Int.reduceNeg, Int.reduceSub, Int.reduceAdd, hg6, a2, hb, boolI], ?_⟩
          simp only [push_cast, Nat.reduceBEq, Nat.reduceAdd, Nat.reduceEqDiff, reduceCtorEq, Nat.reduceLeDiff, Nat.reduceSub, Nat.reduceMul, Nat.reduceLT, Int.reduceEq, Int.reduceLT, Int.reduceLE, Int.reduceBEq, Int.reduceBNe, Int.reduceToNat, Int.reduceNeg, Int.reduceSub, Int.reduceAdd, hg6, a2, hb, boolI, hwk]
          exact ⟨_, by omega, k + 1, H6, n6, S5, N5, D5, rfl, by omega, by omega, rfl, h5.frame hn6 (fun j hj => k6 j (h5.lt j hj)), hN5, hU6, hD5n, hD5p, hg6, by omega, hggS5, (k6 gx hgxn5).trans hgx5, by omega, hgxS5⟩
        | false =>
          obtain ⟨v, hlk, hU6⟩ := hU5.found kn5 hkn hb
          simp only [push_cast, Nat.reduceBEq, Nat.reduceAdd, Nat.reduceEqDiff, reduceCtorEq, Nat.reduceLeDiff, Nat.reduceSub, Nat.reduceMul, Nat.reduceLT, Int.reduceEq, Int.reduceLT, Int.reduceLE, Int.reduceBEq, Int.reduceBNe, Int.reduceToNat, Int.reduceNeg, Int.reduceSub, Int.reduceAdd, hkn, a1, hgg5, a2, hb, boolI]
          refine callHD (unpin_c h5 hlk) ?_
          rintro _ H6 n6 ⟨rfl, S6, ⟨N6, h6, hN6⟩, hn6, k6⟩
          have hn6 : n5 ≤ n6 := hn6
          have k6 : ∀ j, j < n5 → ¬ S5 j → H6 j = H5 j ∧ ¬ S6 j := k6
          have hg6 : H6 gg = _ := (k6 gg hggn5 hggS5).1.trans hgg5
          rw [Hv.contD_at]
          refine ⟨by simp only [push_cast, Nat.reduceBEq, Nat.reduceAdd, Nat.reduceEqDiff, reduceCtorEq, Nat.reduceLeDiff, Nat.reduceSub, Nat.reduceMul, Nat.reduceLT, Int.reduceEq, Int.reduceLT, Int.reduceLE, Int.reduceBEq, Int.reduceBNe, Int.reduceToNat, Int.reduceNeg, Int.reduceSub, Int.reduceAdd, hg6, a2, hb, boolI], ?_⟩
          simp only [push_cast, Nat.reduceBEq, Nat.reduceAdd, Nat.reduceEqDiff, reduceCtorEq, Nat.reduceLeDiff, Nat.reduceSub, Nat.reduceMul, Nat.reduceLT, Int.reduceEq, Int.reduceLT, Int.reduceLE, Int.reduceBEq, Int.reduceBNe, Int.reduceToNat, Int.reduceNeg, Int.reduceSub, Int.reduceAdd, hg6, a2, hb, boolI, hwk]
          exact ⟨_, by omega, k + 1, H6, n6, S6, N6, _, rfl, by omega, by omega, rfl, h6, hN6.trans hN5, hU6 h6.ok, hD5n, hD5p, hg6, by omega, (k6 gg hggn5 hggS5).2, (k6 gx hgxn5 hgxS5).1.trans hgx5, by omega, (k6 gx hgxn5 hgxS5).2⟩
      · have a1 : ¬ (k : Int) ≤ (np : Int) := by omega
        have hpins := hU5.done (by omega)
        have w5 := hU5.w
        have hnB := hI.nowB
        have hc5 := w5.ok.cnt
        have hlo5 := w5.ok.pos.1
        have hpl : D5.eras.length < 256 := by omega
        obtain ⟨fi, fl, hf1, hf2, hf3, hf4⟩ := w5.x.free w5.pk.ll hpl
        obtain ⟨s1, s2, s3, s4, s5, s6, s7, s8, s9⟩ := w5.sweep hf1 hf2 (by omega) hpins hU5.now1
        have hxe := hI.xs
        have ht100 : D5.pool.taken.length = 100 := by rw [w5.pk.tl, hD5p]; exact hI.K
        rw [ht100] at s9
        simp only [push_cast, Nat.reduceBEq, Nat.reduceAdd, Nat.reduceEqDiff, reduceCtorEq, Nat.reduceLeDiff, Nat.reduceSub, Nat.reduceMul, Nat.reduceLT, Int.reduceEq, Int.reduceLT, Int.reduceLE, Int.reduceBEq, Int.reduceBNe, Int.reduceToNat, Int.reduceNeg, Int.reduceSub, Int.reduceAdd, hkn, a1]
        rw [stopC_eq]
        simp only [push_cast, Nat.reduceBEq, Nat.reduceAdd, Nat.reduceEqDiff, reduceCtorEq, Nat.reduceLeDiff, Nat.reduceSub, Nat.reduceMul, Nat.reduceLT, Int.reduceEq, Int.reduceLT, Int.reduceLE, Int.reduceBEq, Int.reduceBNe, Int.reduceToNat, Int.reduceNeg, Int.reduceSub, Int.reduceAdd]
        refine callH (live_c h5 hU5.now1 (by omega)) ?_
        rintro _ H6 n6 ⟨g6, rfl, hg61, hg62, hg6r, k6⟩
        have k6 : ∀ j, j < n5 → H6 j = H5 j := k6
        have hg61 : n5 ≤ g6 := hg61
        have h6 := h5.frame (H' := H6) (n' := n6) (by omega) fun j hj => k6 j (h5.lt j hj)
        simp only [push_cast, Nat.reduceBEq, Nat.reduceAdd, Nat.reduceEqDiff, reduceCtorEq, Nat.reduceLeDiff, Nat.reduceSub, Nat.reduceMul, Nat.reduceLT, Int.reduceEq, Int.reduceLT, Int.reduceLE, Int.reduceBEq, Int.reduceBNe, Int.reduceToNat, Int.reduceNeg, Int.reduceSub, Int.reduceAdd]
        refine callH (advance_c h6 hf1 hf2 hf3 (by omega) (by omega)) ?_
        rintro _ H7 n7 ⟨rfl, S7, ⟨N7, h7, hN7⟩, hn7, k7⟩
        have hn7 : n6 ≤ n7 := hn7
        have k7 : ∀ j, j < n6 → ¬ S5 j → H7 j = H6 j ∧ ¬ S7 j := k7
        simp only [push_cast, Nat.reduceBEq, Nat.reduceAdd, Nat.reduceEqDiff, reduceCtorEq, Nat.reduceLeDiff, Nat.reduceSub, Nat.reduceMul, Nat.reduceLT, Int.reduceEq, Int.reduceLT, Int.reduceLE, Int.reduceBEq, Int.reduceBNe, Int.reduceToNat, Int.reduceNeg, Int.reduceSub, Int.reduceAdd]
        refine callH (collect_c h7 (by show 1 ≤ D5.now + 1; omega) s1 (.inl s2)) ?_
        rintro _ H8 n8 ⟨rfl, S8, ⟨N8, h8, hN8⟩, hn8, k8⟩
        have hn8 : n7 ≤ n8 := hn8
        have k8 : ∀ j, j < n7 → ¬ S7 j → H8 j = H7 j ∧ ¬ S8 j := k8
        have hgx8 : H8 gx = some (.row false 51 (X.map noteI)) := (k8 gx (by omega) (k7 gx (by omega) hgxS5).2).1.trans ((k7 gx (by omega) hgxS5).1.trans ((k6 gx hgxn5).trans hgx5))
        have hgxS8 := (k8 gx (by omega) (k7 gx (by omega) hgxS5).2).2
        obtain ⟨D6, hD6⟩ : ∃ D6, (D5.adv fi fl).dropped D5.eras.length = D6 := ⟨_, rfl⟩
        rw [hD6] at h8 s3 s4 s5 s6 s7 s8 s9
        simp only [push_cast, Nat.reduceBEq, Nat.reduceAdd, Nat.reduceEqDiff, reduceCtorEq, Nat.reduceLeDiff, Nat.reduceSub, Nat.reduceMul, Nat.reduceLT, Int.reduceEq, Int.reduceLT, Int.reduceLE, Int.reduceBEq, Int.reduceBNe, Int.reduceToNat, Int.reduceNeg, Int.reduceSub, Int.reduceAdd]
        refine callH (kept_c h8 (by rw [s7]; decide)) ?_
        rintro _ H9 n9 ⟨rfl, hn9, k9⟩
        have hn9 : n8 ≤ n9 := hn9
        have k9 : ∀ j, j < n8 → H9 j = H8 j := k9
        have h9 := h8.frame (H' := H9) (n' := n9) hn9 fun j hj => k9 j (h8.lt j hj)
        have z1 : ((D6.kept : Nat) : Int) = 0 := by rw [s7]; rfl
        simp only [push_cast, Nat.reduceBEq, Nat.reduceAdd, Nat.reduceEqDiff, reduceCtorEq, Nat.reduceLeDiff, Nat.reduceSub, Nat.reduceMul, Nat.reduceLT, Int.reduceEq, Int.reduceLT, Int.reduceLE, Int.reduceBEq, Int.reduceBNe, Int.reduceToNat, Int.reduceNeg, Int.reduceSub, Int.reduceAdd, z1]
        have hNN : N8.p = p := by rw [hN8, hN7, hN5]
        obtain ⟨Sp, ⟨PN, pp⟩, _⟩ := h9.pool
        rw [hNN] at pp
        refine callH (idle_h pp) ?_
        rintro r HA nA ⟨hr, hH, hn⟩
        rw [hr, hH, hn, s9]
        have z2 : ((100 : Nat) : Int) = 100 := rfl
        simp only [push_cast, Nat.reduceBEq, Nat.reduceAdd, Nat.reduceEqDiff, reduceCtorEq, Nat.reduceLeDiff, Nat.reduceSub, Nat.reduceMul, Nat.reduceLT, Int.reduceEq, Int.reduceLT, Int.reduceLE, Int.reduceBEq, Int.reduceBNe, Int.reduceToNat, Int.reduceNeg, Int.reduceSub, Int.reduceAdd, z2]
        refine callH (live_c h9 (by rw [s5]; omega) (by rw [s4]; exact (show 1 ≤ 1000000 by decide))) ?_
        rintro _ HB nB ⟨gl, rfl, hgl1, hgl2, hglr, kB⟩
        have hgl1 : n9 ≤ gl := hgl1
        have kB : ∀ j, j < n9 → HB j = H9 j := kB
        have hel : D6.eras.length = 1 := by rw [s4]; rfl
        have hlv : D6.live.map intI = [[.lit (.int .i64 ((D5.now + 1 : Nat) : Int))]] := by
          unfold EpD.live
          rw [hel]
          show [intI ((D6.lo + 0 : Nat) : Int)] = _
          rw [s6]; rfl
        rw [hlv] at hglr
        rw [hel]
        have z3 : (((D5.now + 1 : Nat)) : Int) = (D5.now : Int) + 1 := rfl
        rw [z3] at hglr
        have hx10 : ∀ x ∈ X, x.ep < D6.lo := fun x hx => by have := hxe x hx; omega
        have hfree : ∃ l0, (D6.pool.freed fi ⟨true, fl.gen + 1, [], 0⟩).lands[0]? = some l0 ∧ l0.there = false ∧ l0.gen ≤ 1000000000 := by
          have hg6 := s3.x.gen
          by_cases h0 : fi = 0
          · subst h0
            exact ⟨_, List.getElem?_set_self (List.getElem?_eq_some_iff.1 s8).1, rfl, by have h99 := hg6 _ _ s8; rw [s5] at h99; dsimp only at h99; show fl.gen + 1 ≤ 1000000000; omega⟩
          · obtain ⟨l0, hl0⟩ : ∃ l0, D6.pool.lands[0]? = some l0 := ⟨_, List.getElem?_eq_getElem (by rw [s3.pk.ll]; decide)⟩
            refine ⟨l0, by show (D6.pool.lands.set fi _)[0]? = _; rw [List.getElem?_set_ne h0]; exact hl0, ?_, by have := hg6 _ _ hl0; omega⟩
            cases ht0 : l0.there with
            | false => rfl
            | true =>
              obtain ⟨r, hr, e0⟩ := s3.x.own 0 l0 hl0 ht0
              rw [s4] at hr
              rw [List.mem_singleton.1 hr] at e0
              exact absurd e0 h0
        obtain ⟨l0, hl01, hl02, hl03⟩ := hfree
        simp only [push_cast, Nat.reduceBEq, Nat.reduceAdd, Nat.reduceEqDiff, reduceCtorEq, Nat.reduceLeDiff, Nat.reduceSub, Nat.reduceMul, Nat.reduceLT, Int.reduceEq, Int.reduceLT, Int.reduceLE, Int.reduceBEq, Int.reduceBNe, Int.reduceToNat, Int.reduceNeg, Int.reduceSub, Int.reduceAdd, z3]
        have hglB : upd HB nB (some (.row false 3 [[.lit (.int .i64 ((D5.now : Int) + 1))]])) gl = some (.row true 3 [[.lit (.int .i64 ((D5.now : Int) + 1))]]) := (upd_other (by omega)).trans hglr
        refine callH (ints1_h (g' := nB) hglB (upd_same _ _ _)) ?_
        rintro r HC nC ⟨hr, hH, hn⟩
        rw [hr, hH, hn]
        have hgxB : upd HB nB (some (.row false 3 [[.lit (.int .i64 ((D5.now : Int) + 1))]])) gx = some (.row false 51 (X.map noteI)) := (upd_other (by omega)).trans ((kB gx (by omega)).trans ((k9 gx (by omega)).trans hgx8))
        have h10 : EpH (upd HB nB (some (.row false 3 [[.lit (.int .i64 ((D5.now : Int) + 1))]]))) (nB + 1) S8 e N8 D6 := h9.frame (by omega) fun j hj => by have := h9.lt j hj; rw [upd_other (by omega)]; exact kB j this
        generalize upd HB nB (some (.row false 3 [[.lit (.int .i64 ((D5.now : Int) + 1))]])) = HC at hgxB h10 ⊢
        simp only [push_cast, Nat.reduceBEq, Nat.reduceAdd, Nat.reduceEqDiff, reduceCtorEq, Nat.reduceLeDiff, Nat.reduceSub, Nat.reduceMul, Nat.reduceLT, Int.reduceEq, Int.reduceLT, Int.reduceLE, Int.reduceBEq, Int.reduceBNe, Int.reduceToNat, Int.reduceNeg, Int.reduceSub, Int.reduceAdd]
        refine loopK (fun q s => ∃ (m : Nat) (HE : Hp) (nE : Nat), s = ⟨[(3, .ptr p 0), (5, .ptr e 0), (8, .rw gx 5 0 X.length), (20, .lit (.int .i64 (m : Int)))], HE, nE⟩ ∧ m ≤ X.length ∧ q = X.length - m ∧ EpH HE nE S8 e N8 D6 ∧ HE gx = some (.row false 51 (X.map noteI)) ∧ gx < nE) _ [3, 5, 8, 20] ⟨0, HC, nB + 1, rfl, Nat.zero_le _, rfl, h10, hgxB, by omega⟩ ?_
        rintro q _ ⟨m, HE, nE, rfl, hm, rfl, hE, hgxE, hgxnE⟩
        by_cases hml : m < X.length
        · have hml' : (m : Int) < (X.length : Int) := by omega
          obtain ⟨x, hx⟩ : ∃ x, X[m]? = some x := ⟨_, List.getElem?_eq_getElem hml⟩
          have hwm := wrap_nat0 (k := m) (by omega)
          have hbl : Nat.ble X.length X.length = true := Nat.ble_self_eq_true _
          have htk : List.take X.length (X.map noteI) = X.map noteI := List.take_of_length_le (by rw [List.length_map]; exact Nat.le_refl _)
          have hls := load_stale hE (x := x) (.inl (hx10 x (List.mem_of_getElem? hx)))
          unfold noteA at hls
          simp only [push_cast, Nat.reduceBEq, Nat.reduceAdd, Nat.reduceEqDiff, reduceCtorEq, Nat.reduceLeDiff, Nat.reduceSub, Nat.reduceMul, Nat.reduceLT, Int.reduceEq, Int.reduceLT, Int.reduceLE, Int.reduceBEq, Int.reduceBNe, Int.reduceToNat, Int.reduceNeg, Int.reduceSub, Int.reduceAdd, hml, hml', hgxE, hx, noteI, hbl, htk]
          refine callH hls ?_
          rintro _ HF nF ⟨⟨v, rfl⟩, hnF, kF⟩
          have hnF : nE ≤ nF := hnF
          have kF : ∀ j, j < nE → HF j = HE j := kF
          simp only [push_cast, Nat.reduceBEq, Nat.reduceAdd, Nat.reduceEqDiff, reduceCtorEq, Nat.reduceLeDiff, Nat.reduceSub, Nat.reduceMul, Nat.reduceLT, Int.reduceEq, Int.reduceLT, Int.reduceLE, Int.reduceBEq, Int.reduceBNe, Int.reduceToNat, Int.reduceNeg, Int.reduceSub, Int.reduceAdd, hwm]
          exact ⟨_, by omega, m + 1, HF, nF, rfl, hml, rfl, hE.frame hnF (fun j hj => kF j (hE.lt j hj)), (kF gx hgxnE).trans hgxE, by omega⟩
        · have hmn : ¬ (m : Int) < (X.length : Int) := by omega
          simp only [push_cast, Nat.reduceBEq, Nat.reduceAdd, Nat.reduceEqDiff, reduceCtorEq, Nat.reduceLeDiff, Nat.reduceSub, Nat.reduceMul, Nat.reduceLT, Int.reduceEq, Int.reduceLT, Int.reduceLE, Int.reduceBEq, Int.reduceBNe, Int.reduceToNat, Int.reduceNeg, Int.reduceSub, Int.reduceAdd, hml, hmn]
          refine callH (close_c hE (by rw [s5]; omega) s4 s8 rfl) ?_
          rintro _ HF nF ⟨rfl, hnF, ⟨c1, c2, c3, c4, heF⟩, Sq, ⟨PN2, qq⟩, nSq⟩
          have hnF : nE ≤ nF := hnF
          have heE := hE.lt e hE.Sp.1
          simp only [push_cast, Nat.reduceBEq, Nat.reduceAdd, Nat.reduceEqDiff, reduceCtorEq, Nat.reduceLeDiff, Nat.reduceSub, Nat.reduceMul, Nat.reduceLT, Int.reduceEq, Int.reduceLT, Int.reduceLE, Int.reduceBEq, Int.reduceBNe, Int.reduceToNat, Int.reduceNeg, Int.reduceSub, Int.reduceAdd]
          refine callH (over_close heF) ?_
          rintro r HG nG ⟨hr, hH, hn⟩
          rw [hr, hH, hn]
          simp only [push_cast, Nat.reduceBEq, Nat.reduceAdd, Nat.reduceEqDiff, reduceCtorEq, Nat.reduceLeDiff, Nat.reduceSub, Nat.reduceMul, Nat.reduceLT, Int.reduceEq, Int.reduceLT, Int.reduceLE, Int.reduceBEq, Int.reduceBNe, Int.reduceToNat, Int.reduceNeg, Int.reduceSub, Int.reduceAdd]
          refine callH (over_now heF) ?_
          rintro r HG nG ⟨hr, hH, hn⟩
          rw [hr, hH, hn]
          simp only [push_cast, Nat.reduceBEq, Nat.reduceAdd, Nat.reduceEqDiff, reduceCtorEq, Nat.reduceLeDiff, Nat.reduceSub, Nat.reduceMul, Nat.reduceLT, Int.reduceEq, Int.reduceLT, Int.reduceLE, Int.reduceBEq, Int.reduceBNe, Int.reduceToNat, Int.reduceNeg, Int.reduceSub, Int.reduceAdd]
          refine callH (over_live heF (by show e < nF; omega)) ?_
          rintro _ HG nG ⟨⟨gv, rfl⟩, hnG, kG⟩
          have hnG : nF ≤ nG := hnG
          have kG : ∀ j, j < nF → HG j = HF j := kG
          rw [hNN] at qq
          have qG := qq.frame (H' := HG) (n' := nG) hnG fun j hj => kG j (qq.lt j hj)
          have z0 : ((0 : Nat) : Int) = 0 := rfl
          simp only [push_cast, Nat.reduceBEq, Nat.reduceAdd, Nat.reduceEqDiff, reduceCtorEq, Nat.reduceLeDiff, Nat.reduceSub, Nat.reduceMul, Nat.reduceLT, Int.reduceEq, Int.reduceLT, Int.reduceLE, Int.reduceBEq, Int.reduceBNe, Int.reduceToNat, Int.reduceNeg, Int.reduceSub, Int.reduceAdd, z0]
          refine callH (make_c qG (i := 0) hl01 hl02 (fun j l hj => absurd hj (Nat.not_lt_zero _)) hl03) ?_
          rintro _ HI nI ⟨rfl, _⟩
          simp only [push_cast, Nat.reduceBEq, Nat.reduceAdd, Nat.reduceEqDiff, reduceCtorEq, Nat.reduceLeDiff, Nat.reduceSub, Nat.reduceMul, Nat.reduceLT, Int.reduceEq, Int.reduceLT, Int.reduceLE, Int.reduceBEq, Int.reduceBNe, Int.reduceToNat, Int.reduceNeg, Int.reduceSub, Int.reduceAdd, z0]
end Go.Proofs.Ytndojmpgadbefaa
