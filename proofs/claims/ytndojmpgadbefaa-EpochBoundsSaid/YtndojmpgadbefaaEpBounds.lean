/- Chapter 12's statement EpochBounds, by the walk over a heap. -/
import Derived.Test.YtndojmpgadbefaaEpBP
set_option linter.unusedVariables false
set_option linter.unusedSimpArgs false
namespace Go.Proofs.Ytndojmpgadbefaa
open Go Go.RowKit Hv
set_option maxRecDepth 20000
set_option maxHeartbeats 4000000
theorem EpochBounds_h (let' : Int) : Hv.ACalls Try.prog 5 [.lit (.int .i64 let')] (.lit (.bool true)) := by
  refine acallsC_of (rs := [.tmp 2]) ⟨[0, 2, 3, 4, 5, 6, 7, 8, 10, 11, 12, 13, 15, 16, 17, 18, 19, 20, 22, 28, 35, 37, 51, 92, 94, 108], [], [], []⟩ TOk mixed Try.func5 rfl rfl (by kernel_rfl) (by kernel_rfl) rfl (by simp [noId_lit]) (.lit _) ?_
  simp only [push_cast, Nat.reduceBEq, Nat.reduceAdd, Nat.reduceEqDiff, reduceCtorEq, Nat.reduceLeDiff, Nat.reduceSub, Nat.reduceMul, Nat.reduceLT, Int.reduceEq, Int.reduceLT, Int.reduceLE, Int.reduceBEq, Int.reduceBNe, Int.reduceToNat, Int.reduceNeg, Int.reduceSub, Int.reduceAdd]
  refine callH ages_h ?_
  rintro _ H0 n0 ⟨rfl, hn0, _⟩
  simp only [push_cast, Nat.reduceBEq, Nat.reduceAdd, Nat.reduceEqDiff, reduceCtorEq, Nat.reduceLeDiff, Nat.reduceSub, Nat.reduceMul, Nat.reduceLT, Int.reduceEq, Int.reduceLT, Int.reduceLE, Int.reduceBEq, Int.reduceBNe, Int.reduceToNat, Int.reduceNeg, Int.reduceSub, Int.reduceAdd]
  refine callH (newPool_c (size := 64) (K := 1) (by decide) (by decide) (by decide) (by decide)) ?_
  rintro _ H1 n1 ⟨p, S1, rfl, hp1, hn1, hS1, k1⟩
  simp only [push_cast, Nat.reduceBEq, Nat.reduceAdd, Nat.reduceEqDiff, reduceCtorEq, Nat.reduceLeDiff, Nat.reduceSub, Nat.reduceMul, Nat.reduceLT, Int.reduceEq, Int.reduceLT, Int.reduceLE, Int.reduceBEq, Int.reduceBNe, Int.reduceToNat, Int.reduceNeg, Int.reduceSub, Int.reduceAdd]
  refine callH (newEp_c hp1 (l := landZ) rfl rfl (by decide)) ?_
  rintro _ H2 n2 ⟨e, S2, rfl, ⟨N2, h2, hN2⟩, hn2, k2⟩
  rw [bG_first] at h2
  simp only [push_cast, Nat.reduceBEq, Nat.reduceAdd, Nat.reduceEqDiff, reduceCtorEq, Nat.reduceLeDiff, Nat.reduceSub, Nat.reduceMul, Nat.reduceLT, Int.reduceEq, Int.reduceLT, Int.reduceLE, Int.reduceBEq, Int.reduceBNe, Int.reduceToNat, Int.reduceNeg, Int.reduceSub, Int.reduceAdd]
  refine loopK (fun q s => ∃ (m : Nat) (H4 : Hp) (n4 : Nat) (S4 : Nat → Prop) (N4 : EpN), s = ⟨[(0, .lit (.int .i64 let')), (5, .ptr e 0), (6, .lit (.int .i64 ((m : Int) + 1)))], H4, n4⟩ ∧ m ≤ 1000 ∧ q = 1000 - m ∧ EpH H4 n4 S4 e N4 (bG 1 m (bPins m))) _ [0, 5, 6] ⟨0, H2, n2, S2, N2, rfl, by omega, rfl, h2⟩ ?_
  rintro q _ ⟨m, H4, n4, S4, N4, rfl, hm, rfl, h4⟩
  by_cases hm1 : m < 1000
  · have g1 : (m : Int) + 1 ≤ 1000 := by omega
    have hw : IntKind.i64.wrap ((m : Int) + 1 + 1) = (m : Int) + 1 + 1 := IntWalk.i64_in _ (by omega)
    simp only [push_cast, Nat.reduceBEq, Nat.reduceAdd, Nat.reduceEqDiff, reduceCtorEq, Nat.reduceLeDiff, Nat.reduceSub, Nat.reduceMul, Nat.reduceLT, Int.reduceEq, Int.reduceLT, Int.reduceLE, Int.reduceBEq, Int.reduceBNe, Int.reduceToNat, Int.reduceNeg, Int.reduceSub, Int.reduceAdd, g1]
    refine callH (pin_c h4 (Nat.le_refl _) (by rw [show (bG 1 m (bPins m)).pins = (bPins m).1 from rfl, bPins_len]; exact hm1) (by show m < 1000000000; omega)) ?_
    rintro _ H5 n5 ⟨rfl, S5, ⟨N5, h5, hN5⟩, hn5, k5⟩
    have h5 : EpH H5 n5 S5 e N5 (bG 1 (m + 1) (bPins (m + 1))) := by rw [← bG_pin]; exact h5
    have z1 : (((bG 1 m (bPins m)).last + 1 : Nat) : Int) = (m : Int) + 1 := rfl
    simp only [push_cast, Nat.reduceBEq, Nat.reduceAdd, Nat.reduceEqDiff, reduceCtorEq, Nat.reduceLeDiff, Nat.reduceSub, Nat.reduceMul, Nat.reduceLT, Int.reduceEq, Int.reduceLT, Int.reduceLE, Int.reduceBEq, Int.reduceBNe, Int.reduceToNat, Int.reduceNeg, Int.reduceSub, Int.reduceAdd, z1, hw]
    exact ⟨_, by omega, m + 1, H5, n5, S5, N5, rfl, by omega, rfl, h5⟩
  · obtain rfl : m = 1000 := by omega
    obtain ⟨k, hk, hk1, hk2⟩ := u64_mod let' (K := 1000) (by decide) (by decide)
    simp only [show ((1000 : Nat) : Int) = 1000 from rfl] at hk1
    have hw : IntKind.i64.wrap (1 + (k : Int)) = ((1 + k : Nat) : Int) := by rw [show (1 : Int) + (k : Int) = ((1 + k : Nat) : Int) by omega]; exact IntWalk.i64_in _ (by omega)
    have g1 : ¬ ((1000 : Nat) : Int) + 1 ≤ 1000 := by decide
    have g1' : ¬ (1000 : Int) + 1 ≤ 1000 := by decide
    simp only [push_cast, Nat.reduceBEq, Nat.reduceAdd, Nat.reduceEqDiff, reduceCtorEq, Nat.reduceLeDiff, Nat.reduceSub, Nat.reduceMul, Nat.reduceLT, Int.reduceEq, Int.reduceLT, Int.reduceLE, Int.reduceBEq, Int.reduceBNe, Int.reduceToNat, Int.reduceNeg, Int.reduceSub, Int.reduceAdd, g1, g1', hk1, hk2, hw]
    refine callH (pin_full h4 (by rw [show (bG 1 1000 (bPins 1000)).pins = (bPins 1000).1 from rfl, bPins_len]; exact Nat.le_refl _)) ?_
    rintro _ H5 n5 ⟨rfl, hn5, k5⟩
    have h5 := h4.frame (H' := H5) (n' := n5) hn5 fun j hj => k5 j (h4.lt j hj)
    simp only [push_cast, Nat.reduceBEq, Nat.reduceAdd, Nat.reduceEqDiff, reduceCtorEq, Nat.reduceLeDiff, Nat.reduceSub, Nat.reduceMul, Nat.reduceLT, Int.reduceEq, Int.reduceLT, Int.reduceLE, Int.reduceBEq, Int.reduceBNe, Int.reduceToNat, Int.reduceNeg, Int.reduceSub, Int.reduceAdd]
    have hlk := bPins_look (k := 1 + k) (by omega)
    rw [show ((1 + k : Nat) : Int) = 1 + (k : Int) by omega] at hlk
    have hlk : lookE (bG 1 1000 (bPins 1000)).pins (1 + (k : Int)) = some 1 := hlk
    refine callH (unpin_c h5 hlk) ?_
    rintro _ H6 n6 ⟨rfl, S6, ⟨N6, h6, hN6⟩, hn6, k6⟩
    obtain ⟨Q, hQ⟩ : ∃ Q, delE (bPins 1000).1 (1 + (k : Int)) = Q := ⟨_, rfl⟩
    have h6 : EpH H6 n6 S6 e N6 (bG 1 1000 (Q, 1000)) := by rw [← hQ]; exact h6
    have hQl : Q.length = 999 := by
      rw [← hQ, len_del, show lookE (bPins 1000).1 (1 + (k : Int)) = some 1 from hlk, bPins_len]; rfl
    have hQv : ∀ x ∈ Q, x.val = 1 := fun x hx => by rw [← hQ] at hx; exact bPins_val x (del_sub x hx)
    simp only [push_cast, Nat.reduceBEq, Nat.reduceAdd, Nat.reduceEqDiff, reduceCtorEq, Nat.reduceLeDiff, Nat.reduceSub, Nat.reduceMul, Nat.reduceLT, Int.reduceEq, Int.reduceLT, Int.reduceLE, Int.reduceBEq, Int.reduceBNe, Int.reduceToNat, Int.reduceNeg, Int.reduceSub, Int.reduceAdd]
    refine callH (pin_c h6 (Nat.le_refl _) (by show Q.length < 1000; omega) (by show 1000 < 1000000000; decide)) ?_
    rintro _ H7 n7 ⟨rfl, S7, ⟨N7, h7, hN7⟩, hn7, k7⟩
    obtain ⟨R, hR⟩ : ∃ R, R = Q ++ [⟨1001, 1, 1000⟩] := ⟨_, rfl⟩
    have h7 : EpH H7 n7 S7 e N7 (bG 1 1001 (R, 1001)) := by rw [hR]; exact h7
    have hRl : R.length = 1000 := by rw [hR, List.length_append, hQl]; rfl
    have hRv : ∀ x ∈ R, x.val = 1 := fun x hx => by
      rw [hR] at hx
      rcases List.mem_append.1 hx with hx | hx
      · exact hQv x hx
      · rw [List.mem_singleton.1 hx]
    have z2 : (((bG 1 1000 (Q, 1000)).last + 1 : Nat) : Int) = 1001 := rfl
    simp only [push_cast, Nat.reduceBEq, Nat.reduceAdd, Nat.reduceEqDiff, reduceCtorEq, Nat.reduceLeDiff, Nat.reduceSub, Nat.reduceMul, Nat.reduceLT, Int.reduceEq, Int.reduceLT, Int.reduceLE, Int.reduceBEq, Int.reduceBNe, Int.reduceToNat, Int.reduceNeg, Int.reduceSub, Int.reduceAdd, z2]
    refine callH (pin_full h7 (by show 1000 ≤ R.length; omega)) ?_
    rintro _ H8 n8 ⟨rfl, hn8, k8⟩
    have h8 := h7.frame (H' := H8) (n' := n8) hn8 fun j hj => k8 j (h7.lt j hj)
    simp only [push_cast, Nat.reduceBEq, Nat.reduceAdd, Nat.reduceEqDiff, reduceCtorEq, Nat.reduceLeDiff, Nat.reduceSub, Nat.reduceMul, Nat.reduceLT, Int.reduceEq, Int.reduceLT, Int.reduceLE, Int.reduceBEq, Int.reduceBNe, Int.reduceToNat, Int.reduceNeg, Int.reduceSub, Int.reduceAdd]
    refine loopK (fun q s => ∃ (m : Nat) (H4 : Hp) (n4 : Nat) (S4 : Nat → Prop) (N4 : EpN), s = ⟨[(5, .ptr e 0), (16, .lit (.int .i64 ((m : Int) + 1)))], H4, n4⟩ ∧ 1 ≤ m ∧ m ≤ 256 ∧ q = 256 - m ∧ EpH H4 n4 S4 e N4 (bG m 1001 (R, 1001))) _ [5, 16] ⟨1, H8, n8, S7, N7, rfl, by omega, by omega, rfl, h8⟩ ?_
    rintro q _ ⟨m, H9, n9, S9, N9, rfl, hmA, hmB, rfl, h9⟩
    by_cases hm2 : m < 256
    · have g2 : (m : Int) + 1 ≤ 256 := by omega
      have hw2 : IntKind.i64.wrap ((m : Int) + 1 + 1) = (m : Int) + 1 + 1 := IntWalk.i64_in _ (by omega)
      simp only [push_cast, Nat.reduceBEq, Nat.reduceAdd, Nat.reduceEqDiff, reduceCtorEq, Nat.reduceLeDiff, Nat.reduceSub, Nat.reduceMul, Nat.reduceLT, Int.reduceEq, Int.reduceLT, Int.reduceLE, Int.reduceBEq, Int.reduceBNe, Int.reduceToNat, Int.reduceNeg, Int.reduceSub, Int.reduceAdd, g2]
      refine callH (advance_c h9 (i := m) (l := landZ) (poolI_free hm2) rfl (fun j l hj hl => poolI_there hj hl) (by decide) (by show m < 1000000000; omega)) ?_
      rintro _ HA nA ⟨rfl, SA, ⟨NA, hA, hNA⟩, hnA, kA⟩
      rw [bG_adv hm2] at hA
      have z3 : (((bG m 1001 (R, 1001)).now + 1 : Nat) : Int) = (m : Int) + 1 := rfl
      simp only [push_cast, Nat.reduceBEq, Nat.reduceAdd, Nat.reduceEqDiff, reduceCtorEq, Nat.reduceLeDiff, Nat.reduceSub, Nat.reduceMul, Nat.reduceLT, Int.reduceEq, Int.reduceLT, Int.reduceLE, Int.reduceBEq, Int.reduceBNe, Int.reduceToNat, Int.reduceNeg, Int.reduceSub, Int.reduceAdd, z3, hw2]
      exact ⟨_, by omega, m + 1, HA, nA, SA, NA, rfl, by omega, by omega, rfl, hA⟩
    · obtain rfl : m = 256 := by omega
      have g2 : ¬ (256 : Int) + 1 ≤ 256 := by decide
      have g2' : ¬ ((256 : Nat) : Int) + 1 ≤ 256 := by decide
      simp only [push_cast, Nat.reduceBEq, Nat.reduceAdd, Nat.reduceEqDiff, reduceCtorEq, Nat.reduceLeDiff, Nat.reduceSub, Nat.reduceMul, Nat.reduceLT, Int.reduceEq, Int.reduceLT, Int.reduceLE, Int.reduceBEq, Int.reduceBNe, Int.reduceToNat, Int.reduceNeg, Int.reduceSub, Int.reduceAdd, g2, g2']
      refine callH (advance_full h9 poolI_full) ?_
      rintro _ HA nA ⟨hr, hH, hn⟩
      rw [hr, hH, hn]
      simp only [push_cast, Nat.reduceBEq, Nat.reduceAdd, Nat.reduceEqDiff, reduceCtorEq, Nat.reduceLeDiff, Nat.reduceSub, Nat.reduceMul, Nat.reduceLT, Int.reduceEq, Int.reduceLT, Int.reduceLE, Int.reduceBEq, Int.reduceBNe, Int.reduceToNat, Int.reduceNeg, Int.reduceSub, Int.reduceAdd]
      have hO : IsOldest (bG 256 1001 (R, 1001)) 1 := oldest_one (by decide) hRv (fun e' => by rw [show R = [] from e'] at hRl; cases hRl)
      refine callH (collect_c h9 (by show 1 ≤ 256; decide) hO (c := 0) (.inr ⟨by show (1 : Int) ≤ ((1 : Nat) : Int); decide, rfl⟩)) ?_
      rintro _ HB nB ⟨rfl, SB, ⟨NB, hB, hNB⟩, hnB, kB⟩
      have hB : EpH HB nB SB e NB (bG 256 1001 (R, 1001)) := hB
      have z4 : ((0 : Nat) : Int) = 0 := rfl
      simp only [push_cast, Nat.reduceBEq, Nat.reduceAdd, Nat.reduceEqDiff, reduceCtorEq, Nat.reduceLeDiff, Nat.reduceSub, Nat.reduceMul, Nat.reduceLT, Int.reduceEq, Int.reduceLT, Int.reduceLE, Int.reduceBEq, Int.reduceBNe, Int.reduceToNat, Int.reduceNeg, Int.reduceSub, Int.reduceAdd, z4]
      refine callH (now_c hB) ?_
      rintro _ HC nC ⟨hr, hH, hn⟩
      rw [hr, hH, hn]
      have z5 : (((bG 256 1001 (R, 1001)).now : Nat) : Int) = 256 := rfl
      simp only [push_cast, Nat.reduceBEq, Nat.reduceAdd, Nat.reduceEqDiff, reduceCtorEq, Nat.reduceLeDiff, Nat.reduceSub, Nat.reduceMul, Nat.reduceLT, Int.reduceEq, Int.reduceLT, Int.reduceLE, Int.reduceBEq, Int.reduceBNe, Int.reduceToNat, Int.reduceNeg, Int.reduceSub, Int.reduceAdd, z5]
      refine callH (oldest_c hB hO) ?_
      rintro _ HD nD ⟨rfl, hnD, kD⟩
      have hD := hB.frame (H' := HD) (n' := nD) hnD fun j hj => kD j (hB.lt j hj)
      simp only [push_cast, Nat.reduceBEq, Nat.reduceAdd, Nat.reduceEqDiff, reduceCtorEq, Nat.reduceLeDiff, Nat.reduceSub, Nat.reduceMul, Nat.reduceLT, Int.reduceEq, Int.reduceLT, Int.reduceLE, Int.reduceBEq, Int.reduceBNe, Int.reduceToNat, Int.reduceNeg, Int.reduceSub, Int.reduceAdd]
      have hel : (bG 256 1001 (R, 1001)).eras.length = 256 := by show ((List.range 256).map _).length = _; rw [List.length_map, List.length_range]
      refine callH (live_c hD (by show 1 ≤ 256; decide) (by rw [hel]; decide)) ?_
      rintro _ HE nE ⟨g, rfl, hg1, hg2, hgr, kE⟩
      have z6 : ((256 : Nat) : Int) = 256 := rfl
      simp only [push_cast, Nat.reduceBEq, Nat.reduceAdd, Nat.reduceEqDiff, reduceCtorEq, Nat.reduceLeDiff, Nat.reduceSub, Nat.reduceMul, Nat.reduceLT, Int.reduceEq, Int.reduceLT, Int.reduceLE, Int.reduceBEq, Int.reduceBNe, Int.reduceToNat, Int.reduceNeg, Int.reduceSub, Int.reduceAdd, hel, z6]
end Go.Proofs.Ytndojmpgadbefaa
