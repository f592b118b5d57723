/- Chapter 7's statement FsRenames, by the walk over a heap. -/
import Derived.Test.YtjmafbdakalknaaDoorFsRenP
set_option linter.unusedVariables false
set_option linter.unusedSimpArgs false
namespace Go.Proofs.YtjmafbdakalknaaDoor
open Go Go.RowKit Hv
set_option maxRecDepth 20000
set_option maxHeartbeats 16000000
theorem FsRenames_h (x : SwapD) (hp : x.picks.length * 8 ≤ 140737488355328) : Hv.ACalls Tryd.prog 8 [swapA x] (.lit (.bool true)) := by
  refine acallsC_of (rs := [.tmp 2]) ⟨[0, 1, 2, 3, 4, 5, 6, 7, 8, 10, 12, 54, 116], [], [], [(3, [(0, [], []), (1, [], []), (2, [], []), (3, [], []), (4, [], []), (5, [], []), (6, [], []), (7, [], []), (8, [], []), (9, [], []), (10, [], []), (11, [], []), (12, [], []), (13, [], []), (14, [8, 10, 11], [6, 0, 1, 2, 3, 4, 5]), (15, [], [13, 14, 0, 1, 2, 3, 4, 5, 6, 7, 8, 9, 10, 11, 12])])]⟩ TOk mixed Tryd.func8 rfl rfl (by kernel_rfl) (by kernel_rfl) rfl (by simp [swapA, noId_ints, noId_lit, noId_agg]) (.lit _) ?_
  obtain ⟨o0, f0, z, picks⟩ := x
  have hp : picks.length * 8 ≤ 140737488355328 := hp
  simp only [push_cast, Nat.reduceBEq, Nat.reduceAdd, Nat.reduceEqDiff, reduceCtorEq, Nat.reduceLeDiff, Nat.reduceSub, Nat.reduceMul, Nat.reduceLT, Int.reduceEq, Int.reduceLT, Int.reduceLE, Int.reduceBEq, Int.reduceBNe, Int.reduceToNat, Int.reduceNeg, Int.reduceSub, Int.reduceAdd, swapA]
  refine callH files_c ?_
  rintro _ Ha na ⟨rfl, hna, ka⟩
  try dsimp only at hna ka
  have b0 : Own Ha na (fun _ => False) 0 (.cells [.lit (.string o0), .lit (.string f0), .lit (.int .i64 z), .sl (picks.map intI)]) := ⟨(ka 0 (Nat.lt_succ_self 0)).trans (upd_same _ _ _), hna, fun h => h⟩
  have b1 := b0.at
  obtain ⟨k, hk, hk1, hk2⟩ : ∃ k : Nat, (if (500 : Int) < (o0.size : Int) then (500 : Int) else (o0.size : Int)) = (k : Int) ∧ k ≤ o0.size ∧ k ≤ 500 := by
    by_cases h : (500 : Int) < (o0.size : Int)
    · exact ⟨500, if_pos h, by omega, by omega⟩
    · exact ⟨o0.size, if_neg h, by omega, by omega⟩
  obtain ⟨m, hm, hm1, hm2⟩ : ∃ k : Nat, (if (500 : Int) < (f0.size : Int) then (500 : Int) else (f0.size : Int)) = (k : Int) ∧ k ≤ f0.size ∧ k ≤ 500 := by
    by_cases h : (500 : Int) < (f0.size : Int)
    · exact ⟨500, if_pos h, by omega, by omega⟩
    · exact ⟨f0.size, if_neg h, by omega, by omega⟩
  have hk3 : (0 : Int) ≤ (k : Int) := by omega
  have hm3 : (0 : Int) ≤ (m : Int) := by omega
  have hk4 : (k : Int) ≤ (o0.size : Int) := by omega
  have hm4 : (m : Int) ≤ (f0.size : Int) := by omega
  have hk5 : (k : Int).toNat = k := by omega
  have hm5 : (m : Int).toNat = m := by omega
  obtain ⟨su, hsu, hsl⟩ : ∃ su, o0.extract 0 k = su ∧ su.size ≤ 3000 := ⟨_, rfl, by rw [ByteArray.size_extract]; omega⟩
  obtain ⟨fr, hfr, hfl⟩ : ∃ su, f0.extract 0 m = su ∧ su.size ≤ 3000 := ⟨_, rfl, by rw [ByteArray.size_extract]; omega⟩
  have hsl' : su.data.toList.length ≤ 3000 := hsl
  have hfl' : fr.data.toList.length ≤ 3000 := hfl
  have hsz : su.size.ble 140737488355328 = true := by rw [Nat.ble_eq]; omega
  have hfz : fr.size.ble 140737488355328 = true := by rw [Nat.ble_eq]; omega
  obtain ⟨w, hw, hw1, hw2⟩ := u64_mod z (K := 8) (by decide) (by decide)
  have hw1 : (IntKind.u64.wrap z).tmod 8 = (w : Int) := hw1
  have hpi : (∀ it ∈ picks.map intI, it.length = 1) = True := eq_true fun it hit => by obtain ⟨z, _, rfl⟩ := List.mem_map.1 hit; rfl
  have hpj : (∀ it ∈ picks.map intI, it.length = 1 ∧ it.all AV.isOne = true) = True := eq_true fun it hit => by obtain ⟨z, _, rfl⟩ := List.mem_map.1 hit; exact ⟨rfl, rfl⟩
  simp (maxSteps := 2000000) only [push_cast, Nat.reduceBEq, Nat.reduceAdd, Nat.reduceEqDiff, reduceCtorEq, Nat.reduceLeDiff, Nat.reduceSub, Nat.reduceMul, Nat.reduceLT, Int.reduceEq, Int.reduceLT, Int.reduceLE, Int.reduceBEq, Int.reduceBNe, Int.reduceToNat, Int.reduceNeg, Int.reduceSub, Int.reduceAdd, hk, hm, hk3, hm3, hk4, hm4, hk5, hm5, hsu, hfr, b1]
  refine callH (new_c (by decide)) ?_
  rintro _ H0 n0 ⟨rfl, S0, h0, hn0, k0⟩
  replace b0 := b0.keep hn0 k0
  simp only [push_cast, Nat.reduceBEq, Nat.reduceAdd, Nat.reduceEqDiff, reduceCtorEq, Nat.reduceLeDiff, Nat.reduceSub, Nat.reduceMul, Nat.reduceLT, Int.reduceEq, Int.reduceLT, Int.reduceLE, Int.reduceBEq, Int.reduceBNe, Int.reduceToNat, Int.reduceNeg, Int.reduceSub, Int.reduceAdd]
  refine callH (create_c h0 (by decide) nCur) ?_
  rintro _ H1 n1 ⟨rfl, S1, h1, hn1, k1⟩
  replace b0 := b0.keep hn1 k1
  rw [ren0] at h1
  simp only [push_cast, Nat.reduceBEq, Nat.reduceAdd, Nat.reduceEqDiff, reduceCtorEq, Nat.reduceLeDiff, Nat.reduceSub, Nat.reduceMul, Nat.reduceLT, Int.reduceEq, Int.reduceLT, Int.reduceLE, Int.reduceBEq, Int.reduceBNe, Int.reduceToNat, Int.reduceNeg, Int.reduceSub, Int.reduceAdd, ren0, hsz]
  refine callH (append_s h1 nCur su (by omega)) ?_
  rintro _ H2 n2 ⟨rfl, S2, h2, hn2, k2⟩
  replace b0 := (b0.new (Nat.le_refl _) (Nat.le_succ _)).keep hn2 k2
  rw [ren1 hsl'] at h2
  simp only [push_cast, Nat.reduceBEq, Nat.reduceAdd, Nat.reduceEqDiff, reduceCtorEq, Nat.reduceLeDiff, Nat.reduceSub, Nat.reduceMul, Nat.reduceLT, Int.reduceEq, Int.reduceLT, Int.reduceLE, Int.reduceBEq, Int.reduceBNe, Int.reduceToNat, Int.reduceNeg, Int.reduceSub, Int.reduceAdd, ren1 hsl']
  refine callH (sync_c h2 nCur) ?_
  rintro _ H3 n3 ⟨rfl, S3, h3, hn3, k3⟩
  replace b0 := b0.keep hn3 k3
  rw [ren2] at h3
  simp only [push_cast, Nat.reduceBEq, Nat.reduceAdd, Nat.reduceEqDiff, reduceCtorEq, Nat.reduceLeDiff, Nat.reduceSub, Nat.reduceMul, Nat.reduceLT, Int.reduceEq, Int.reduceLT, Int.reduceLE, Int.reduceBEq, Int.reduceBNe, Int.reduceToNat, Int.reduceNeg, Int.reduceSub, Int.reduceAdd, ren2]
  refine callH (syncDir_c h3) ?_
  rintro _ H4 n4 ⟨rfl, S4, h4, hn4, k4⟩
  replace b0 := b0.keep hn4 k4
  rw [ren3] at h4
  have b2 := b0.at
  simp only [push_cast, Nat.reduceBEq, Nat.reduceAdd, Nat.reduceEqDiff, reduceCtorEq, Nat.reduceLeDiff, Nat.reduceSub, Nat.reduceMul, Nat.reduceLT, Int.reduceEq, Int.reduceLT, Int.reduceLE, Int.reduceBEq, Int.reduceBNe, Int.reduceToNat, Int.reduceNeg, Int.reduceSub, Int.reduceAdd, ren3, hw1, hw2, b2]
  refine callH (arm_c h4 (by omega)) ?_
  rintro _ H5 n5 ⟨rfl, S5, h5, hn5, k5⟩
  replace b0 := b0.keep hn5 k5
  rw [ren4 _ (by omega)] at h5
  clear h0 h1 h2 h3 h4 k0 k1 k2 k3 k4 k5 hk hm hw1 hw2
  obtain ⟨l0, hl0⟩ : ∃ l0 : Int, (w : Int) = l0 := ⟨_, rfl⟩
  rw [hl0] at h5
  simp only [push_cast, Nat.reduceBEq, Nat.reduceAdd, Nat.reduceEqDiff, reduceCtorEq, Nat.reduceLeDiff, Nat.reduceSub, Nat.reduceMul, Nat.reduceLT, Int.reduceEq, Int.reduceLT, Int.reduceLE, Int.reduceBEq, Int.reduceBNe, Int.reduceToNat, Int.reduceNeg, Int.reduceSub, Int.reduceAdd, hl0]
  clear hl0
  by_cases hz : l0 = 0
  · subst hz
    refine callH (create_c h5 (Nat.le_of_ble_eq_true rfl) nTmp) ?_
    rintro _ G0 m0 ⟨rfl, T0, g0, hm0, km0⟩
    replace b0 := b0.keep hm0 km0
    rw [step1'] at g0
    have b3 := b0.at
    have nz : (m0 == 0) = false := by rw [beq_eq_false_iff_ne]; have := b0.2.1; omega
    simp only [push_cast, Nat.reduceBEq, Nat.reduceAdd, Nat.reduceEqDiff, reduceCtorEq, Nat.reduceLeDiff, Nat.reduceSub, Nat.reduceMul, Nat.reduceLT, Int.reduceEq, Int.reduceLT, Int.reduceLE, Int.reduceBEq, Int.reduceBNe, Int.reduceToNat, Int.reduceNeg, Int.reduceSub, Int.reduceAdd, step1', List.not_mem_nil, false_implies, hpi, hpj, hp, b3, nz]
    refine callH (crash_c (n := m0 + 1 + 1) (picks := picks) (g0.new3 (by omega) (by omega) (by omega) (by omega)) (Nat.le_of_ble_eq_true rfl) (.inr (.inr ⟨m0 + 1, picks, 0, rfl, by omega, upd_same _ _ _, rfl, by omega⟩))) ?_
    rintro _ H8 n8 ⟨rfl, S8, h8, hn8, k8⟩
    simp only [push_cast, Nat.reduceBEq, Nat.reduceAdd, Nat.reduceEqDiff, reduceCtorEq, Nat.reduceLeDiff, Nat.reduceSub, Nat.reduceMul, Nat.reduceLT, Int.reduceEq, Int.reduceLT, Int.reduceLE, Int.reduceBEq, Int.reduceBNe, Int.reduceToNat, Int.reduceNeg, Int.reduceSub, Int.reduceAdd]
    refine callH (read_c h8 nCur 0 1048576 (by decide)) ?_
    rintro _ H9 n9 h9
    rw [(end1 picks hsl')] at h9
    obtain ⟨hn9, hk9, res, rfl, ⟨rfl, hh⟩ | ⟨g, gm, rfl, hg1, hg2, hg, hgm⟩⟩ := h9
    · have hV : (⟨#[]⟩ : ByteArray) = su := (str_nil hh).symm
      have h9 := h8.same hn9 hk9
      simp only [push_cast, Nat.reduceBEq, Nat.reduceAdd, Nat.reduceEqDiff, reduceCtorEq, Nat.reduceLeDiff, Nat.reduceSub, Nat.reduceMul, Nat.reduceLT, Int.reduceEq, Int.reduceLT, Int.reduceLE, Int.reduceBEq, Int.reduceBNe, Int.reduceToNat, Int.reduceNeg, Int.reduceSub, Int.reduceAdd]
      refine callH (size_c h9 nTmp) ?_
      rintro _ _ _ ⟨rfl, rfl, rfl⟩
      simp (maxSteps := 400000) only [push_cast, Nat.reduceBEq, Nat.reduceAdd, Nat.reduceEqDiff, reduceCtorEq, Nat.reduceLeDiff, Nat.reduceSub, Nat.reduceMul, Nat.reduceLT, Int.reduceEq, Int.reduceLT, Int.reduceLE, Int.reduceBEq, Int.reduceBNe, Int.reduceToNat, Int.reduceNeg, Int.reduceSub, Int.reduceAdd, bytesOf_nil, strOf_nil, hV, bne_self]
    · have hq1 : (⟨su.data.toList.toArray⟩ : ByteArray) = su := rfl
      have hq2 : Nat.ble su.data.toList.length (byL su.data.toList).length = true := by rw [Nat.ble_eq, byL_len]; omega
      have hq3 : (byL su.data.toList).take su.data.toList.length = byL su.data.toList := List.take_of_length_le (Nat.le_of_eq (byL_len _))
      have h9 := h8.same hn9 hk9
      cases gm
      · simp only [push_cast, Nat.reduceBEq, Nat.reduceAdd, Nat.reduceEqDiff, reduceCtorEq, Nat.reduceLeDiff, Nat.reduceSub, Nat.reduceMul, Nat.reduceLT, Int.reduceEq, Int.reduceLT, Int.reduceLE, Int.reduceBEq, Int.reduceBNe, Int.reduceToNat, Int.reduceNeg, Int.reduceSub, Int.reduceAdd]
        refine callH (size_c h9 nTmp) ?_
        rintro _ _ _ ⟨rfl, rfl, rfl⟩
        simp (maxSteps := 400000) only [push_cast, Nat.reduceBEq, Nat.reduceAdd, Nat.reduceEqDiff, reduceCtorEq, Nat.reduceLeDiff, Nat.reduceSub, Nat.reduceMul, Nat.reduceLT, Int.reduceEq, Int.reduceLT, Int.reduceLE, Int.reduceBEq, Int.reduceBNe, Int.reduceToNat, Int.reduceNeg, Int.reduceSub, Int.reduceAdd, hg, hq2, hq3, bytesOf_byL, strOf_byL, hq1, bne_self]
      · simp only [push_cast, Nat.reduceBEq, Nat.reduceAdd, Nat.reduceEqDiff, reduceCtorEq, Nat.reduceLeDiff, Nat.reduceSub, Nat.reduceMul, Nat.reduceLT, Int.reduceEq, Int.reduceLT, Int.reduceLE, Int.reduceBEq, Int.reduceBNe, Int.reduceToNat, Int.reduceNeg, Int.reduceSub, Int.reduceAdd]
        refine callH (size_c h9 nTmp) ?_
        rintro _ _ _ ⟨rfl, rfl, rfl⟩
        simp (maxSteps := 400000) only [push_cast, Nat.reduceBEq, Nat.reduceAdd, Nat.reduceEqDiff, reduceCtorEq, Nat.reduceLeDiff, Nat.reduceSub, Nat.reduceMul, Nat.reduceLT, Int.reduceEq, Int.reduceLT, Int.reduceLE, Int.reduceBEq, Int.reduceBNe, Int.reduceToNat, Int.reduceNeg, Int.reduceSub, Int.reduceAdd, hg, hq2, hq3, bytesOf_byL, strOf_byL, hq1, bne_self]
  · refine callH (create_c h5 (Nat.le_of_ble_eq_true rfl) nTmp) ?_
    rintro _ G0 m0 ⟨rfl, T0, g0, hm0, km0⟩
    replace b0 := b0.keep hm0 km0
    rw [step1 hz] at g0
    obtain ⟨l1, hl1⟩ : ∃ l, l0 - 1 = l := ⟨_, rfl⟩
    rw [hl1] at g0
    simp only [push_cast, Nat.reduceBEq, Nat.reduceAdd, Nat.reduceEqDiff, reduceCtorEq, Nat.reduceLeDiff, Nat.reduceSub, Nat.reduceMul, Nat.reduceLT, Int.reduceEq, Int.reduceLT, Int.reduceLE, Int.reduceBEq, Int.reduceBNe, Int.reduceToNat, Int.reduceNeg, Int.reduceSub, Int.reduceAdd, step1 hz]
    clear hz hl1
    simp only [push_cast, Nat.reduceBEq, Nat.reduceAdd, Nat.reduceEqDiff, reduceCtorEq, Nat.reduceLeDiff, Nat.reduceSub, Nat.reduceMul, Nat.reduceLT, Int.reduceEq, Int.reduceLT, Int.reduceLE, Int.reduceBEq, Int.reduceBNe, Int.reduceToNat, Int.reduceNeg, Int.reduceSub, Int.reduceAdd, hfz]
    by_cases hz : l1 = 0
    · subst hz
      refine callH (append_s g0 nTmp fr (by omega)) ?_
      rintro _ G1 m1 ⟨rfl, T1, g1, hm1, km1⟩
      replace b0 := (b0.new (Nat.le_refl _) (Nat.le_succ _)).keep hm1 km1
      rw [step2' ⟨hsl', hfl'⟩] at g1
      have b3 := b0.at
      have nz : (m1 == 0) = false := by rw [beq_eq_false_iff_ne]; have := b0.2.1; omega
      simp only [push_cast, Nat.reduceBEq, Nat.reduceAdd, Nat.reduceEqDiff, reduceCtorEq, Nat.reduceLeDiff, Nat.reduceSub, Nat.reduceMul, Nat.reduceLT, Int.reduceEq, Int.reduceLT, Int.reduceLE, Int.reduceBEq, Int.reduceBNe, Int.reduceToNat, Int.reduceNeg, Int.reduceSub, Int.reduceAdd, step2' ⟨hsl', hfl'⟩, List.not_mem_nil, false_implies, hpi, hpj, hp, b3, nz]
      refine callH (crash_c (n := m1 + 1 + 1) (picks := picks) (g1.new3 (by omega) (by omega) (by omega) (by omega)) (Nat.le_of_ble_eq_true rfl) (.inr (.inr ⟨m1 + 1, picks, 0, rfl, by omega, upd_same _ _ _, rfl, by omega⟩))) ?_
      rintro _ H8 n8 ⟨rfl, S8, h8, hn8, k8⟩
      simp only [push_cast, Nat.reduceBEq, Nat.reduceAdd, Nat.reduceEqDiff, reduceCtorEq, Nat.reduceLeDiff, Nat.reduceSub, Nat.reduceMul, Nat.reduceLT, Int.reduceEq, Int.reduceLT, Int.reduceLE, Int.reduceBEq, Int.reduceBNe, Int.reduceToNat, Int.reduceNeg, Int.reduceSub, Int.reduceAdd]
      refine callH (read_c h8 nCur 0 1048576 (by decide)) ?_
      rintro _ H9 n9 h9
      rw [(end2 picks _ hsl')] at h9
      obtain ⟨hn9, hk9, res, rfl, ⟨rfl, hh⟩ | ⟨g, gm, rfl, hg1, hg2, hg, hgm⟩⟩ := h9
      · have hV : (⟨#[]⟩ : ByteArray) = su := (str_nil hh).symm
        have h9 := h8.same hn9 hk9
        simp only [push_cast, Nat.reduceBEq, Nat.reduceAdd, Nat.reduceEqDiff, reduceCtorEq, Nat.reduceLeDiff, Nat.reduceSub, Nat.reduceMul, Nat.reduceLT, Int.reduceEq, Int.reduceLT, Int.reduceLE, Int.reduceBEq, Int.reduceBNe, Int.reduceToNat, Int.reduceNeg, Int.reduceSub, Int.reduceAdd]
        refine callH (size_c h9 nTmp) ?_
        rintro _ _ _ ⟨rfl, rfl, rfl⟩
        simp (maxSteps := 400000) only [push_cast, Nat.reduceBEq, Nat.reduceAdd, Nat.reduceEqDiff, reduceCtorEq, Nat.reduceLeDiff, Nat.reduceSub, Nat.reduceMul, Nat.reduceLT, Int.reduceEq, Int.reduceLT, Int.reduceLE, Int.reduceBEq, Int.reduceBNe, Int.reduceToNat, Int.reduceNeg, Int.reduceSub, Int.reduceAdd, bytesOf_nil, strOf_nil, hV, bne_self]
      · have hq1 : (⟨su.data.toList.toArray⟩ : ByteArray) = su := rfl
        have hq2 : Nat.ble su.data.toList.length (byL su.data.toList).length = true := by rw [Nat.ble_eq, byL_len]; omega
        have hq3 : (byL su.data.toList).take su.data.toList.length = byL su.data.toList := List.take_of_length_le (Nat.le_of_eq (byL_len _))
        have h9 := h8.same hn9 hk9
        cases gm
        · simp only [push_cast, Nat.reduceBEq, Nat.reduceAdd, Nat.reduceEqDiff, reduceCtorEq, Nat.reduceLeDiff, Nat.reduceSub, Nat.reduceMul, Nat.reduceLT, Int.reduceEq, Int.reduceLT, Int.reduceLE, Int.reduceBEq, Int.reduceBNe, Int.reduceToNat, Int.reduceNeg, Int.reduceSub, Int.reduceAdd]
          refine callH (size_c h9 nTmp) ?_
          rintro _ _ _ ⟨rfl, rfl, rfl⟩
          simp (maxSteps := 400000) only [push_cast, Nat.reduceBEq, Nat.reduceAdd, Nat.reduceEqDiff, reduceCtorEq, Nat.reduceLeDiff, Nat.reduceSub, Nat.reduceMul, Nat.reduceLT, Int.reduceEq, Int.reduceLT, Int.reduceLE, Int.reduceBEq, Int.reduceBNe, Int.reduceToNat, Int.reduceNeg, Int.reduceSub, Int.reduceAdd, hg, hq2, hq3, bytesOf_byL, strOf_byL, hq1, bne_self]
        · simp only [push_cast, Nat.reduceBEq, Nat.reduceAdd, Nat.reduceEqDiff, reduceCtorEq, Nat.reduceLeDiff, Nat.reduceSub, Nat.reduceMul, Nat.reduceLT, Int.reduceEq, Int.reduceLT, Int.reduceLE, Int.reduceBEq, Int.reduceBNe, Int.reduceToNat, Int.reduceNeg, Int.reduceSub, Int.reduceAdd]
          refine callH (size_c h9 nTmp) ?_
          rintro _ _ _ ⟨rfl, rfl, rfl⟩
          simp (maxSteps := 400000) only [push_cast, Nat.reduceBEq, Nat.reduceAdd, Nat.reduceEqDiff, reduceCtorEq, Nat.reduceLeDiff, Nat.reduceSub, Nat.reduceMul, Nat.reduceLT, Int.reduceEq, Int.reduceLT, Int.reduceLE, Int.reduceBEq, Int.reduceBNe, Int.reduceToNat, Int.reduceNeg, Int.reduceSub, Int.reduceAdd, hg, hq2, hq3, bytesOf_byL, strOf_byL, hq1, bne_self]
    · refine callH (append_s g0 nTmp fr (by omega)) ?_
      rintro _ G1 m1 ⟨rfl, T1, g1, hm1, km1⟩
      replace b0 := (b0.new (Nat.le_refl _) (Nat.le_succ _)).keep hm1 km1
      rw [step2 hz ⟨hsl', hfl'⟩] at g1
      obtain ⟨l2, hl2⟩ : ∃ l, l1 - 1 = l := ⟨_, rfl⟩
      rw [hl2] at g1
      simp only [push_cast, Nat.reduceBEq, Nat.reduceAdd, Nat.reduceEqDiff, reduceCtorEq, Nat.reduceLeDiff, Nat.reduceSub, Nat.reduceMul, Nat.reduceLT, Int.reduceEq, Int.reduceLT, Int.reduceLE, Int.reduceBEq, Int.reduceBNe, Int.reduceToNat, Int.reduceNeg, Int.reduceSub, Int.reduceAdd, step2 hz ⟨hsl', hfl'⟩]
      clear hz hl2
      by_cases hz : l2 = 0
      · subst hz
        refine callH (sync_c g1 nTmp) ?_
        rintro _ G2 m2 ⟨rfl, T2, g2, hm2, km2⟩
        replace b0 := b0.keep hm2 km2
        rw [step3'] at g2
        have b3 := b0.at
        have nz : (m2 == 0) = false := by rw [beq_eq_false_iff_ne]; have := b0.2.1; omega
        simp only [push_cast, Nat.reduceBEq, Nat.reduceAdd, Nat.reduceEqDiff, reduceCtorEq, Nat.reduceLeDiff, Nat.reduceSub, Nat.reduceMul, Nat.reduceLT, Int.reduceEq, Int.reduceLT, Int.reduceLE, Int.reduceBEq, Int.reduceBNe, Int.reduceToNat, Int.reduceNeg, Int.reduceSub, Int.reduceAdd, step3', List.not_mem_nil, false_implies, hpi, hpj, hp, b3, nz]
        refine callH (crash_c (n := m2 + 1 + 1) (picks := picks) (g2.new3 (by omega) (by omega) (by omega) (by omega)) (Nat.le_of_ble_eq_true rfl) (.inr (.inr ⟨m2 + 1, picks, 0, rfl, by omega, upd_same _ _ _, rfl, by omega⟩))) ?_
        rintro _ H8 n8 ⟨rfl, S8, h8, hn8, k8⟩
        simp only [push_cast, Nat.reduceBEq, Nat.reduceAdd, Nat.reduceEqDiff, reduceCtorEq, Nat.reduceLeDiff, Nat.reduceSub, Nat.reduceMul, Nat.reduceLT, Int.reduceEq, Int.reduceLT, Int.reduceLE, Int.reduceBEq, Int.reduceBNe, Int.reduceToNat, Int.reduceNeg, Int.reduceSub, Int.reduceAdd]
        refine callH (read_c h8 nCur 0 1048576 (by decide)) ?_
        rintro _ H9 n9 h9
        rw [(end2 picks _ hsl')] at h9
        obtain ⟨hn9, hk9, res, rfl, ⟨rfl, hh⟩ | ⟨g, gm, rfl, hg1, hg2, hg, hgm⟩⟩ := h9
        · have hV : (⟨#[]⟩ : ByteArray) = su := (str_nil hh).symm
          have h9 := h8.same hn9 hk9
          simp only [push_cast, Nat.reduceBEq, Nat.reduceAdd, Nat.reduceEqDiff, reduceCtorEq, Nat.reduceLeDiff, Nat.reduceSub, Nat.reduceMul, Nat.reduceLT, Int.reduceEq, Int.reduceLT, Int.reduceLE, Int.reduceBEq, Int.reduceBNe, Int.reduceToNat, Int.reduceNeg, Int.reduceSub, Int.reduceAdd]
          refine callH (size_c h9 nTmp) ?_
          rintro _ _ _ ⟨rfl, rfl, rfl⟩
          simp (maxSteps := 400000) only [push_cast, Nat.reduceBEq, Nat.reduceAdd, Nat.reduceEqDiff, reduceCtorEq, Nat.reduceLeDiff, Nat.reduceSub, Nat.reduceMul, Nat.reduceLT, Int.reduceEq, Int.reduceLT, Int.reduceLE, Int.reduceBEq, Int.reduceBNe, Int.reduceToNat, Int.reduceNeg, Int.reduceSub, Int.reduceAdd, bytesOf_nil, strOf_nil, hV, bne_self]
        · have hq1 : (⟨su.data.toList.toArray⟩ : ByteArray) = su := rfl
          have hq2 : Nat.ble su.data.toList.length (byL su.data.toList).length = true := by rw [Nat.ble_eq, byL_len]; omega
          have hq3 : (byL su.data.toList).take su.data.toList.length = byL su.data.toList := List.take_of_length_le (Nat.le_of_eq (byL_len _))
          have h9 := h8.same hn9 hk9
          cases gm
          · simp only [push_cast, Nat.reduceBEq, Nat.reduceAdd, Nat.reduceEqDiff, reduceCtorEq, Nat.reduceLeDiff, Nat.reduceSub, Nat.reduceMul, Nat.reduceLT, Int.reduceEq, Int.reduceLT, Int.reduceLE, Int.reduceBEq, Int.reduceBNe, Int.reduceToNat, Int.reduceNeg, Int.reduceSub, Int.reduceAdd]
            refine callH (size_c h9 nTmp) ?_
            rintro _ _ _ ⟨rfl, rfl, rfl⟩
            simp (maxSteps := 400000) only [push_cast, Nat.reduceBEq, Nat.reduceAdd, Nat.reduceEqDiff, reduceCtorEq, Nat.reduceLeDiff, Nat.reduceSub, Nat.reduceMul, Nat.reduceLT, Int.reduceEq, Int.reduceLT, Int.reduceLE, Int.reduceBEq, Int.reduceBNe, Int.reduceToNat, Int.reduceNeg, Int.reduceSub, Int.reduceAdd, hg, hq2, hq3, bytesOf_byL, strOf_byL, hq1, bne_self]
          · simp only [push_cast, Nat.reduceBEq, Nat.reduceAdd, Nat.reduceEqDiff, reduceCtorEq, Nat.reduceLeDiff, Nat.reduceSub, Nat.reduceMul, Nat.reduceLT, Int.reduceEq, Int.reduceLT, Int.reduceLE, Int.reduceBEq, Int.reduceBNe, Int.reduceToNat, Int.reduceNeg, Int.reduceSub, Int.reduceAdd]
            refine callH (size_c h9 nTmp) ?_
            rintro _ _ _ ⟨rfl, rfl, rfl⟩
            simp (maxSteps := 400000) only [push_cast, Nat.reduceBEq, Nat.reduceAdd, Nat.reduceEqDiff, reduceCtorEq, Nat.reduceLeDiff, Nat.reduceSub, Nat.reduceMul, Nat.reduceLT, Int.reduceEq, Int.reduceLT, Int.reduceLE, Int.reduceBEq, Int.reduceBNe, Int.reduceToNat, Int.reduceNeg, Int.reduceSub, Int.reduceAdd, hg, hq2, hq3, bytesOf_byL, strOf_byL, hq1, bne_self]
      · refine callH (sync_c g1 nTmp) ?_
        rintro _ G2 m2 ⟨rfl, T2, g2, hm2, km2⟩
        replace b0 := b0.keep hm2 km2
        rw [step3 hz] at g2
        obtain ⟨l3, hl3⟩ : ∃ l, l2 - 1 = l := ⟨_, rfl⟩
        rw [hl3] at g2
        simp only [push_cast, Nat.reduceBEq, Nat.reduceAdd, Nat.reduceEqDiff, reduceCtorEq, Nat.reduceLeDiff, Nat.reduceSub, Nat.reduceMul, Nat.reduceLT, Int.reduceEq, Int.reduceLT, Int.reduceLE, Int.reduceBEq, Int.reduceBNe, Int.reduceToNat, Int.reduceNeg, Int.reduceSub, Int.reduceAdd, step3 hz]
        clear hz hl3
        by_cases hz : l3 = 0
        · subst hz
          refine callH (rename_c g2 (Nat.le_of_ble_eq_true rfl) nTmp nCur) ?_
          rintro _ G3 m3 ⟨rfl, T3, g3, hm3, km3⟩
          replace b0 := b0.keep hm3 km3
          rw [step4'] at g3
          have b3 := b0.at
          have nz : (m3 == 0) = false := by rw [beq_eq_false_iff_ne]; have := b0.2.1; omega
          simp only [push_cast, Nat.reduceBEq, Nat.reduceAdd, Nat.reduceEqDiff, reduceCtorEq, Nat.reduceLeDiff, Nat.reduceSub, Nat.reduceMul, Nat.reduceLT, Int.reduceEq, Int.reduceLT, Int.reduceLE, Int.reduceBEq, Int.reduceBNe, Int.reduceToNat, Int.reduceNeg, Int.reduceSub, Int.reduceAdd, step4', List.not_mem_nil, false_implies, hpi, hpj, hp, b3, nz]
          refine callH (crash_c (n := m3 + 1 + 1) (picks := picks) (g3.new3 (by omega) (by omega) (by omega) (by omega)) (Nat.le_of_ble_eq_true rfl) (.inr (.inr ⟨m3 + 1, picks, 0, rfl, by omega, upd_same _ _ _, rfl, by omega⟩))) ?_
          rintro _ H8 n8 ⟨rfl, S8, h8, hn8, k8⟩
          simp only [push_cast, Nat.reduceBEq, Nat.reduceAdd, Nat.reduceEqDiff, reduceCtorEq, Nat.reduceLeDiff, Nat.reduceSub, Nat.reduceMul, Nat.reduceLT, Int.reduceEq, Int.reduceLT, Int.reduceLE, Int.reduceBEq, Int.reduceBNe, Int.reduceToNat, Int.reduceNeg, Int.reduceSub, Int.reduceAdd]
          refine callH (read_c h8 nCur 0 1048576 (by decide)) ?_
          rintro _ H9 n9 h9
          rw [(end2 picks _ hsl')] at h9
          obtain ⟨hn9, hk9, res, rfl, ⟨rfl, hh⟩ | ⟨g, gm, rfl, hg1, hg2, hg, hgm⟩⟩ := h9
          · have hV : (⟨#[]⟩ : ByteArray) = su := (str_nil hh).symm
            have h9 := h8.same hn9 hk9
            simp only [push_cast, Nat.reduceBEq, Nat.reduceAdd, Nat.reduceEqDiff, reduceCtorEq, Nat.reduceLeDiff, Nat.reduceSub, Nat.reduceMul, Nat.reduceLT, Int.reduceEq, Int.reduceLT, Int.reduceLE, Int.reduceBEq, Int.reduceBNe, Int.reduceToNat, Int.reduceNeg, Int.reduceSub, Int.reduceAdd]
            refine callH (size_c h9 nTmp) ?_
            rintro _ _ _ ⟨rfl, rfl, rfl⟩
            simp (maxSteps := 400000) only [push_cast, Nat.reduceBEq, Nat.reduceAdd, Nat.reduceEqDiff, reduceCtorEq, Nat.reduceLeDiff, Nat.reduceSub, Nat.reduceMul, Nat.reduceLT, Int.reduceEq, Int.reduceLT, Int.reduceLE, Int.reduceBEq, Int.reduceBNe, Int.reduceToNat, Int.reduceNeg, Int.reduceSub, Int.reduceAdd, bytesOf_nil, strOf_nil, hV, bne_self]
          · have hq1 : (⟨su.data.toList.toArray⟩ : ByteArray) = su := rfl
            have hq2 : Nat.ble su.data.toList.length (byL su.data.toList).length = true := by rw [Nat.ble_eq, byL_len]; omega
            have hq3 : (byL su.data.toList).take su.data.toList.length = byL su.data.toList := List.take_of_length_le (Nat.le_of_eq (byL_len _))
            have h9 := h8.same hn9 hk9
            cases gm
            · simp only [push_cast, Nat.reduceBEq, Nat.reduceAdd, Nat.reduceEqDiff, reduceCtorEq, Nat.reduceLeDiff, Nat.reduceSub, Nat.reduceMul, Nat.reduceLT, Int.reduceEq, Int.reduceLT, Int.reduceLE, Int.reduceBEq, Int.reduceBNe, Int.reduceToNat, Int.reduceNeg, Int.reduceSub, Int.reduceAdd]
              refine callH (size_c h9 nTmp) ?_
              rintro _ _ _ ⟨rfl, rfl, rfl⟩
              simp (maxSteps := 400000) only [push_cast, Nat.reduceBEq, Nat.reduceAdd, Nat.reduceEqDiff, reduceCtorEq, Nat.reduceLeDiff, Nat.reduceSub, Nat.reduceMul, Nat.reduceLT, Int.reduceEq, Int.reduceLT, Int.reduceLE, Int.reduceBEq, Int.reduceBNe, Int.reduceToNat, Int.reduceNeg, Int.reduceSub, Int.reduceAdd, hg, hq2, hq3, bytesOf_byL, strOf_byL, hq1, bne_self]
            · simp only [push_cast, Nat.reduceBEq, Nat.reduceAdd, Nat.reduceEqDiff, reduceCtorEq, Nat.reduceLeDiff, Nat.reduceSub, Nat.reduceMul, Nat.reduceLT, Int.reduceEq, Int.reduceLT, Int.reduceLE, Int.reduceBEq, Int.reduceBNe, Int.reduceToNat, Int.reduceNeg, Int.reduceSub, Int.reduceAdd]
              refine callH (size_c h9 nTmp) ?_
              rintro _ _ _ ⟨rfl, rfl, rfl⟩
              simp (maxSteps := 400000) only [push_cast, Nat.reduceBEq, Nat.reduceAdd, Nat.reduceEqDiff, reduceCtorEq, Nat.reduceLeDiff, Nat.reduceSub, Nat.reduceMul, Nat.reduceLT, Int.reduceEq, Int.reduceLT, Int.reduceLE, Int.reduceBEq, Int.reduceBNe, Int.reduceToNat, Int.reduceNeg, Int.reduceSub, Int.reduceAdd, hg, hq2, hq3, bytesOf_byL, strOf_byL, hq1, bne_self]
        · refine callH (rename_c g2 (Nat.le_of_ble_eq_true rfl) nTmp nCur) ?_
          rintro _ G3 m3 ⟨rfl, T3, g3, hm3, km3⟩
          replace b0 := b0.keep hm3 km3
          rw [step4 hz] at g3
          obtain ⟨l4, hl4⟩ : ∃ l, l3 - 1 = l := ⟨_, rfl⟩
          rw [hl4] at g3
          simp only [push_cast, Nat.reduceBEq, Nat.reduceAdd, Nat.reduceEqDiff, reduceCtorEq, Nat.reduceLeDiff, Nat.reduceSub, Nat.reduceMul, Nat.reduceLT, Int.reduceEq, Int.reduceLT, Int.reduceLE, Int.reduceBEq, Int.reduceBNe, Int.reduceToNat, Int.reduceNeg, Int.reduceSub, Int.reduceAdd, step4 hz]
          clear hz hl4
          by_cases hz : l4 = 0
          · subst hz
            refine callH (syncDir_c g3) ?_
            rintro _ G4 m4 ⟨rfl, T4, g4, hm4, km4⟩
            replace b0 := b0.keep hm4 km4
            rw [step5'] at g4
            have b3 := b0.at
            have nz : (m4 == 0) = false := by rw [beq_eq_false_iff_ne]; have := b0.2.1; omega
            simp only [push_cast, Nat.reduceBEq, Nat.reduceAdd, Nat.reduceEqDiff, reduceCtorEq, Nat.reduceLeDiff, Nat.reduceSub, Nat.reduceMul, Nat.reduceLT, Int.reduceEq, Int.reduceLT, Int.reduceLE, Int.reduceBEq, Int.reduceBNe, Int.reduceToNat, Int.reduceNeg, Int.reduceSub, Int.reduceAdd, step5', List.not_mem_nil, false_implies, hpi, hpj, hp, b3, nz]
            refine callH (crash_c (n := m4 + 1 + 1) (picks := picks) (g4.new3 (by omega) (by omega) (by omega) (by omega)) (Nat.le_of_ble_eq_true rfl) (.inr (.inr ⟨m4 + 1, picks, 0, rfl, by omega, upd_same _ _ _, rfl, by omega⟩))) ?_
            rintro _ H8 n8 ⟨rfl, S8, h8, hn8, k8⟩
            simp only [push_cast, Nat.reduceBEq, Nat.reduceAdd, Nat.reduceEqDiff, reduceCtorEq, Nat.reduceLeDiff, Nat.reduceSub, Nat.reduceMul, Nat.reduceLT, Int.reduceEq, Int.reduceLT, Int.reduceLE, Int.reduceBEq, Int.reduceBNe, Int.reduceToNat, Int.reduceNeg, Int.reduceSub, Int.reduceAdd]
            refine callH (read_c h8 nCur 0 1048576 (by decide)) ?_
            rintro _ H9 n9 h9
            rcases end5 (old := su.data.toList) (fresh := fr.data.toList) picks ⟨hsl', hfl'⟩ with he | he
            · rw [he] at h9
              obtain ⟨hn9, hk9, res, rfl, ⟨rfl, hh⟩ | ⟨g, gm, rfl, hg1, hg2, hg, hgm⟩⟩ := h9
              · have hV : (⟨#[]⟩ : ByteArray) = su := (str_nil hh).symm
                have h9 := h8.same hn9 hk9
                simp only [push_cast, Nat.reduceBEq, Nat.reduceAdd, Nat.reduceEqDiff, reduceCtorEq, Nat.reduceLeDiff, Nat.reduceSub, Nat.reduceMul, Nat.reduceLT, Int.reduceEq, Int.reduceLT, Int.reduceLE, Int.reduceBEq, Int.reduceBNe, Int.reduceToNat, Int.reduceNeg, Int.reduceSub, Int.reduceAdd]
                refine callH (size_c h9 nTmp) ?_
                rintro _ _ _ ⟨rfl, rfl, rfl⟩
                simp (maxSteps := 400000) only [push_cast, Nat.reduceBEq, Nat.reduceAdd, Nat.reduceEqDiff, reduceCtorEq, Nat.reduceLeDiff, Nat.reduceSub, Nat.reduceMul, Nat.reduceLT, Int.reduceEq, Int.reduceLT, Int.reduceLE, Int.reduceBEq, Int.reduceBNe, Int.reduceToNat, Int.reduceNeg, Int.reduceSub, Int.reduceAdd, bytesOf_nil, strOf_nil, hV, bne_self]
              · have hq1 : (⟨su.data.toList.toArray⟩ : ByteArray) = su := rfl
                have hq2 : Nat.ble su.data.toList.length (byL su.data.toList).length = true := by rw [Nat.ble_eq, byL_len]; omega
                have hq3 : (byL su.data.toList).take su.data.toList.length = byL su.data.toList := List.take_of_length_le (Nat.le_of_eq (byL_len _))
                have h9 := h8.same hn9 hk9
                cases gm
                · simp only [push_cast, Nat.reduceBEq, Nat.reduceAdd, Nat.reduceEqDiff, reduceCtorEq, Nat.reduceLeDiff, Nat.reduceSub, Nat.reduceMul, Nat.reduceLT, Int.reduceEq, Int.reduceLT, Int.reduceLE, Int.reduceBEq, Int.reduceBNe, Int.reduceToNat, Int.reduceNeg, Int.reduceSub, Int.reduceAdd]
                  refine callH (size_c h9 nTmp) ?_
                  rintro _ _ _ ⟨rfl, rfl, rfl⟩
                  simp (maxSteps := 400000) only [push_cast, Nat.reduceBEq, Nat.reduceAdd, Nat.reduceEqDiff, reduceCtorEq, Nat.reduceLeDiff, Nat.reduceSub, Nat.reduceMul, Nat.reduceLT, Int.reduceEq, Int.reduceLT, Int.reduceLE, Int.reduceBEq, Int.reduceBNe, Int.reduceToNat, Int.reduceNeg, Int.reduceSub, Int.reduceAdd, hg, hq2, hq3, bytesOf_byL, strOf_byL, hq1, bne_self]
                · simp only [push_cast, Nat.reduceBEq, Nat.reduceAdd, Nat.reduceEqDiff, reduceCtorEq, Nat.reduceLeDiff, Nat.reduceSub, Nat.reduceMul, Nat.reduceLT, Int.reduceEq, Int.reduceLT, Int.reduceLE, Int.reduceBEq, Int.reduceBNe, Int.reduceToNat, Int.reduceNeg, Int.reduceSub, Int.reduceAdd]
                  refine callH (size_c h9 nTmp) ?_
                  rintro _ _ _ ⟨rfl, rfl, rfl⟩
                  simp (maxSteps := 400000) only [push_cast, Nat.reduceBEq, Nat.reduceAdd, Nat.reduceEqDiff, reduceCtorEq, Nat.reduceLeDiff, Nat.reduceSub, Nat.reduceMul, Nat.reduceLT, Int.reduceEq, Int.reduceLT, Int.reduceLE, Int.reduceBEq, Int.reduceBNe, Int.reduceToNat, Int.reduceNeg, Int.reduceSub, Int.reduceAdd, hg, hq2, hq3, bytesOf_byL, strOf_byL, hq1, bne_self]
            · rw [he] at h9
              obtain ⟨B, hB⟩ : ∃ B, (fr.toList == su.toList) = B := ⟨_, rfl⟩
              cases B
              · obtain ⟨hn9, hk9, res, rfl, ⟨rfl, hh⟩ | ⟨g, gm, rfl, hg1, hg2, hg, hgm⟩⟩ := h9
                · have hV : (⟨#[]⟩ : ByteArray) = fr := (str_nil hh).symm
                  have h9 := h8.same hn9 hk9
                  simp only [push_cast, Nat.reduceBEq, Nat.reduceAdd, Nat.reduceEqDiff, reduceCtorEq, Nat.reduceLeDiff, Nat.reduceSub, Nat.reduceMul, Nat.reduceLT, Int.reduceEq, Int.reduceLT, Int.reduceLE, Int.reduceBEq, Int.reduceBNe, Int.reduceToNat, Int.reduceNeg, Int.reduceSub, Int.reduceAdd]
                  refine callH (size_c h9 nTmp) ?_
                  rintro _ _ _ ⟨rfl, rfl, rfl⟩
                  simp (maxSteps := 400000) only [push_cast, Nat.reduceBEq, Nat.reduceAdd, Nat.reduceEqDiff, reduceCtorEq, Nat.reduceLeDiff, Nat.reduceSub, Nat.reduceMul, Nat.reduceLT, Int.reduceEq, Int.reduceLT, Int.reduceLE, Int.reduceBEq, Int.reduceBNe, Int.reduceToNat, Int.reduceNeg, Int.reduceSub, Int.reduceAdd, bytesOf_nil, strOf_nil, hV, bne_self, hB, str_refl]
                · have hq1 : (⟨fr.data.toList.toArray⟩ : ByteArray) = fr := rfl
                  have hq2 : Nat.ble fr.data.toList.length (byL fr.data.toList).length = true := by rw [Nat.ble_eq, byL_len]; omega
                  have hq3 : (byL fr.data.toList).take fr.data.toList.length = byL fr.data.toList := List.take_of_length_le (Nat.le_of_eq (byL_len _))
                  have h9 := h8.same hn9 hk9
                  cases gm
                  · simp only [push_cast, Nat.reduceBEq, Nat.reduceAdd, Nat.reduceEqDiff, reduceCtorEq, Nat.reduceLeDiff, Nat.reduceSub, Nat.reduceMul, Nat.reduceLT, Int.reduceEq, Int.reduceLT, Int.reduceLE, Int.reduceBEq, Int.reduceBNe, Int.reduceToNat, Int.reduceNeg, Int.reduceSub, Int.reduceAdd]
                    refine callH (size_c h9 nTmp) ?_
                    rintro _ _ _ ⟨rfl, rfl, rfl⟩
                    simp (maxSteps := 400000) only [push_cast, Nat.reduceBEq, Nat.reduceAdd, Nat.reduceEqDiff, reduceCtorEq, Nat.reduceLeDiff, Nat.reduceSub, Nat.reduceMul, Nat.reduceLT, Int.reduceEq, Int.reduceLT, Int.reduceLE, Int.reduceBEq, Int.reduceBNe, Int.reduceToNat, Int.reduceNeg, Int.reduceSub, Int.reduceAdd, hg, hq2, hq3, bytesOf_byL, strOf_byL, hq1, bne_self, hB, str_refl]
                  · simp only [push_cast, Nat.reduceBEq, Nat.reduceAdd, Nat.reduceEqDiff, reduceCtorEq, Nat.reduceLeDiff, Nat.reduceSub, Nat.reduceMul, Nat.reduceLT, Int.reduceEq, Int.reduceLT, Int.reduceLE, Int.reduceBEq, Int.reduceBNe, Int.reduceToNat, Int.reduceNeg, Int.reduceSub, Int.reduceAdd]
                    refine callH (size_c h9 nTmp) ?_
                    rintro _ _ _ ⟨rfl, rfl, rfl⟩
                    simp (maxSteps := 400000) only [push_cast, Nat.reduceBEq, Nat.reduceAdd, Nat.reduceEqDiff, reduceCtorEq, Nat.reduceLeDiff, Nat.reduceSub, Nat.reduceMul, Nat.reduceLT, Int.reduceEq, Int.reduceLT, Int.reduceLE, Int.reduceBEq, Int.reduceBNe, Int.reduceToNat, Int.reduceNeg, Int.reduceSub, Int.reduceAdd, hg, hq2, hq3, bytesOf_byL, strOf_byL, hq1, bne_self, hB, str_refl]
              · obtain ⟨hn9, hk9, res, rfl, ⟨rfl, hh⟩ | ⟨g, gm, rfl, hg1, hg2, hg, hgm⟩⟩ := h9
                · have hV : (⟨#[]⟩ : ByteArray) = fr := (str_nil hh).symm
                  have h9 := h8.same hn9 hk9
                  simp only [push_cast, Nat.reduceBEq, Nat.reduceAdd, Nat.reduceEqDiff, reduceCtorEq, Nat.reduceLeDiff, Nat.reduceSub, Nat.reduceMul, Nat.reduceLT, Int.reduceEq, Int.reduceLT, Int.reduceLE, Int.reduceBEq, Int.reduceBNe, Int.reduceToNat, Int.reduceNeg, Int.reduceSub, Int.reduceAdd]
                  refine callH (size_c h9 nTmp) ?_
                  rintro _ _ _ ⟨rfl, rfl, rfl⟩
                  simp (maxSteps := 400000) only [push_cast, Nat.reduceBEq, Nat.reduceAdd, Nat.reduceEqDiff, reduceCtorEq, Nat.reduceLeDiff, Nat.reduceSub, Nat.reduceMul, Nat.reduceLT, Int.reduceEq, Int.reduceLT, Int.reduceLE, Int.reduceBEq, Int.reduceBNe, Int.reduceToNat, Int.reduceNeg, Int.reduceSub, Int.reduceAdd, bytesOf_nil, strOf_nil, hV, bne_self, hB, str_refl]
                · have hq1 : (⟨fr.data.toList.toArray⟩ : ByteArray) = fr := rfl
                  have hq2 : Nat.ble fr.data.toList.length (byL fr.data.toList).length = true := by rw [Nat.ble_eq, byL_len]; omega
                  have hq3 : (byL fr.data.toList).take fr.data.toList.length = byL fr.data.toList := List.take_of_length_le (Nat.le_of_eq (byL_len _))
                  have h9 := h8.same hn9 hk9
                  cases gm
                  · simp only [push_cast, Nat.reduceBEq, Nat.reduceAdd, Nat.reduceEqDiff, reduceCtorEq, Nat.reduceLeDiff, Nat.reduceSub, Nat.reduceMul, Nat.reduceLT, Int.reduceEq, Int.reduceLT, Int.reduceLE, Int.reduceBEq, Int.reduceBNe, Int.reduceToNat, Int.reduceNeg, Int.reduceSub, Int.reduceAdd]
                    refine callH (size_c h9 nTmp) ?_
                    rintro _ _ _ ⟨rfl, rfl, rfl⟩
                    simp (maxSteps := 400000) only [push_cast, Nat.reduceBEq, Nat.reduceAdd, Nat.reduceEqDiff, reduceCtorEq, Nat.reduceLeDiff, Nat.reduceSub, Nat.reduceMul, Nat.reduceLT, Int.reduceEq, Int.reduceLT, Int.reduceLE, Int.reduceBEq, Int.reduceBNe, Int.reduceToNat, Int.reduceNeg, Int.reduceSub, Int.reduceAdd, hg, hq2, hq3, bytesOf_byL, strOf_byL, hq1, bne_self, hB, str_refl]
                  · simp only [push_cast, Nat.reduceBEq, Nat.reduceAdd, Nat.reduceEqDiff, reduceCtorEq, Nat.reduceLeDiff, Nat.reduceSub, Nat.reduceMul, Nat.reduceLT, Int.reduceEq, Int.reduceLT, Int.reduceLE, Int.reduceBEq, Int.reduceBNe, Int.reduceToNat, Int.reduceNeg, Int.reduceSub, Int.reduceAdd]
                    refine callH (size_c h9 nTmp) ?_
                    rintro _ _ _ ⟨rfl, rfl, rfl⟩
                    simp (maxSteps := 400000) only [push_cast, Nat.reduceBEq, Nat.reduceAdd, Nat.reduceEqDiff, reduceCtorEq, Nat.reduceLeDiff, Nat.reduceSub, Nat.reduceMul, Nat.reduceLT, Int.reduceEq, Int.reduceLT, Int.reduceLE, Int.reduceBEq, Int.reduceBNe, Int.reduceToNat, Int.reduceNeg, Int.reduceSub, Int.reduceAdd, hg, hq2, hq3, bytesOf_byL, strOf_byL, hq1, bne_self, hB, str_refl]
          · refine callH (syncDir_c g3) ?_
            rintro _ G4 m4 ⟨rfl, T4, g4, hm4, km4⟩
            replace b0 := b0.keep hm4 km4
            rw [step5 hz] at g4
            obtain ⟨l5, hl5⟩ : ∃ l, l4 - 1 = l := ⟨_, rfl⟩
            rw [hl5] at g4
            have b3 := b0.at
            have nz : (m4 == 0) = false := by rw [beq_eq_false_iff_ne]; have := b0.2.1; omega
            simp only [push_cast, Nat.reduceBEq, Nat.reduceAdd, Nat.reduceEqDiff, reduceCtorEq, Nat.reduceLeDiff, Nat.reduceSub, Nat.reduceMul, Nat.reduceLT, Int.reduceEq, Int.reduceLT, Int.reduceLE, Int.reduceBEq, Int.reduceBNe, Int.reduceToNat, Int.reduceNeg, Int.reduceSub, Int.reduceAdd, step5 hz, List.not_mem_nil, false_implies, hpi, hpj, hp, b3, nz]
            clear hz hl5
            refine callH (crash_c (n := m4 + 1 + 1) (picks := picks) (g4.new3 (by omega) (by omega) (by omega) (by omega)) (Nat.le_of_ble_eq_true rfl) (.inr (.inr ⟨m4 + 1, picks, 0, rfl, by omega, upd_same _ _ _, rfl, by omega⟩))) ?_
            rintro _ H8 n8 ⟨rfl, S8, h8, hn8, k8⟩
            simp only [push_cast, Nat.reduceBEq, Nat.reduceAdd, Nat.reduceEqDiff, reduceCtorEq, Nat.reduceLeDiff, Nat.reduceSub, Nat.reduceMul, Nat.reduceLT, Int.reduceEq, Int.reduceLT, Int.reduceLE, Int.reduceBEq, Int.reduceBNe, Int.reduceToNat, Int.reduceNeg, Int.reduceSub, Int.reduceAdd]
            refine callH (read_c h8 nCur 0 1048576 (by decide)) ?_
            rintro _ H9 n9 h9
            obtain ⟨e61, e62⟩ := end6 (old := su.data.toList) (fresh := fr.data.toList) picks l5 hfl'
            rw [e61] at h9
            obtain ⟨B, hB⟩ : ∃ B, (fr.toList == su.toList) = B := ⟨_, rfl⟩
            cases B
            · obtain ⟨hn9, hk9, res, rfl, ⟨rfl, hh⟩ | ⟨g, gm, rfl, hg1, hg2, hg, hgm⟩⟩ := h9
              · have hV : (⟨#[]⟩ : ByteArray) = fr := (str_nil hh).symm
                have h9 := h8.same hn9 hk9
                simp only [push_cast, Nat.reduceBEq, Nat.reduceAdd, Nat.reduceEqDiff, reduceCtorEq, Nat.reduceLeDiff, Nat.reduceSub, Nat.reduceMul, Nat.reduceLT, Int.reduceEq, Int.reduceLT, Int.reduceLE, Int.reduceBEq, Int.reduceBNe, Int.reduceToNat, Int.reduceNeg, Int.reduceSub, Int.reduceAdd]
                refine callH (size_c h9 nTmp) ?_
                rintro _ _ _ ⟨rfl, rfl, rfl⟩
                simp (maxSteps := 400000) only [push_cast, Nat.reduceBEq, Nat.reduceAdd, Nat.reduceEqDiff, reduceCtorEq, Nat.reduceLeDiff, Nat.reduceSub, Nat.reduceMul, Nat.reduceLT, Int.reduceEq, Int.reduceLT, Int.reduceLE, Int.reduceBEq, Int.reduceBNe, Int.reduceToNat, Int.reduceNeg, Int.reduceSub, Int.reduceAdd, bytesOf_nil, strOf_nil, hV, bne_self, hB, str_refl, e62]
              · have hq1 : (⟨fr.data.toList.toArray⟩ : ByteArray) = fr := rfl
                have hq2 : Nat.ble fr.data.toList.length (byL fr.data.toList).length = true := by rw [Nat.ble_eq, byL_len]; omega
                have hq3 : (byL fr.data.toList).take fr.data.toList.length = byL fr.data.toList := List.take_of_length_le (Nat.le_of_eq (byL_len _))
                have h9 := h8.same hn9 hk9
                cases gm
                · simp only [push_cast, Nat.reduceBEq, Nat.reduceAdd, Nat.reduceEqDiff, reduceCtorEq, Nat.reduceLeDiff, Nat.reduceSub, Nat.reduceMul, Nat.reduceLT, Int.reduceEq, Int.reduceLT, Int.reduceLE, Int.reduceBEq, Int.reduceBNe, Int.reduceToNat, Int.reduceNeg, Int.reduceSub, Int.reduceAdd]
                  refine callH (size_c h9 nTmp) ?_
                  rintro _ _ _ ⟨rfl, rfl, rfl⟩
                  simp (maxSteps := 400000) only [push_cast, Nat.reduceBEq, Nat.reduceAdd, Nat.reduceEqDiff, reduceCtorEq, Nat.reduceLeDiff, Nat.reduceSub, Nat.reduceMul, Nat.reduceLT, Int.reduceEq, Int.reduceLT, Int.reduceLE, Int.reduceBEq, Int.reduceBNe, Int.reduceToNat, Int.reduceNeg, Int.reduceSub, Int.reduceAdd, hg, hq2, hq3, bytesOf_byL, strOf_byL, hq1, bne_self, hB, str_refl, e62]
                · simp only [push_cast, Nat.reduceBEq, Nat.reduceAdd, Nat.reduceEqDiff, reduceCtorEq, Nat.reduceLeDiff, Nat.reduceSub, Nat.reduceMul, Nat.reduceLT, Int.reduceEq, Int.reduceLT, Int.reduceLE, Int.reduceBEq, Int.reduceBNe, Int.reduceToNat, Int.reduceNeg, Int.reduceSub, Int.reduceAdd]
                  refine callH (size_c h9 nTmp) ?_
                  rintro _ _ _ ⟨rfl, rfl, rfl⟩
                  simp (maxSteps := 400000) only [push_cast, Nat.reduceBEq, Nat.reduceAdd, Nat.reduceEqDiff, reduceCtorEq, Nat.reduceLeDiff, Nat.reduceSub, Nat.reduceMul, Nat.reduceLT, Int.reduceEq, Int.reduceLT, Int.reduceLE, Int.reduceBEq, Int.reduceBNe, Int.reduceToNat, Int.reduceNeg, Int.reduceSub, Int.reduceAdd, hg, hq2, hq3, bytesOf_byL, strOf_byL, hq1, bne_self, hB, str_refl, e62]
            · obtain ⟨hn9, hk9, res, rfl, ⟨rfl, hh⟩ | ⟨g, gm, rfl, hg1, hg2, hg, hgm⟩⟩ := h9
              · have hV : (⟨#[]⟩ : ByteArray) = fr := (str_nil hh).symm
                have h9 := h8.same hn9 hk9
                simp only [push_cast, Nat.reduceBEq, Nat.reduceAdd, Nat.reduceEqDiff, reduceCtorEq, Nat.reduceLeDiff, Nat.reduceSub, Nat.reduceMul, Nat.reduceLT, Int.reduceEq, Int.reduceLT, Int.reduceLE, Int.reduceBEq, Int.reduceBNe, Int.reduceToNat, Int.reduceNeg, Int.reduceSub, Int.reduceAdd]
                refine callH (size_c h9 nTmp) ?_
                rintro _ _ _ ⟨rfl, rfl, rfl⟩
                simp (maxSteps := 400000) only [push_cast, Nat.reduceBEq, Nat.reduceAdd, Nat.reduceEqDiff, reduceCtorEq, Nat.reduceLeDiff, Nat.reduceSub, Nat.reduceMul, Nat.reduceLT, Int.reduceEq, Int.reduceLT, Int.reduceLE, Int.reduceBEq, Int.reduceBNe, Int.reduceToNat, Int.reduceNeg, Int.reduceSub, Int.reduceAdd, bytesOf_nil, strOf_nil, hV, bne_self, hB, str_refl, e62]
              · have hq1 : (⟨fr.data.toList.toArray⟩ : ByteArray) = fr := rfl
                have hq2 : Nat.ble fr.data.toList.length (byL fr.data.toList).length = true := by rw [Nat.ble_eq, byL_len]; omega
                have hq3 : (byL fr.data.toList).take fr.data.toList.length = byL fr.data.toList := List.take_of_length_le (Nat.le_of_eq (byL_len _))
                have h9 := h8.same hn9 hk9
                cases gm
                · simp only [push_cast, Nat.reduceBEq, Nat.reduceAdd, Nat.reduceEqDiff, reduceCtorEq, Nat.reduceLeDiff, Nat.reduceSub, Nat.reduceMul, Nat.reduceLT, Int.reduceEq, Int.reduceLT, Int.reduceLE, Int.reduceBEq, Int.reduceBNe, Int.reduceToNat, Int.reduceNeg, Int.reduceSub, Int.reduceAdd]
                  refine callH (size_c h9 nTmp) ?_
                  rintro _ _ _ ⟨rfl, rfl, rfl⟩
                  simp (maxSteps := 400000) only [push_cast, Nat.reduceBEq, Nat.reduceAdd, Nat.reduceEqDiff, reduceCtorEq, Nat.reduceLeDiff, Nat.reduceSub, Nat.reduceMul, Nat.reduceLT, Int.reduceEq, Int.reduceLT, Int.reduceLE, Int.reduceBEq, Int.reduceBNe, Int.reduceToNat, Int.reduceNeg, Int.reduceSub, Int.reduceAdd, hg, hq2, hq3, bytesOf_byL, strOf_byL, hq1, bne_self, hB, str_refl, e62]
                · simp only [push_cast, Nat.reduceBEq, Nat.reduceAdd, Nat.reduceEqDiff, reduceCtorEq, Nat.reduceLeDiff, Nat.reduceSub, Nat.reduceMul, Nat.reduceLT, Int.reduceEq, Int.reduceLT, Int.reduceLE, Int.reduceBEq, Int.reduceBNe, Int.reduceToNat, Int.reduceNeg, Int.reduceSub, Int.reduceAdd]
                  refine callH (size_c h9 nTmp) ?_
                  rintro _ _ _ ⟨rfl, rfl, rfl⟩
                  simp (maxSteps := 400000) only [push_cast, Nat.reduceBEq, Nat.reduceAdd, Nat.reduceEqDiff, reduceCtorEq, Nat.reduceLeDiff, Nat.reduceSub, Nat.reduceMul, Nat.reduceLT, Int.reduceEq, Int.reduceLT, Int.reduceLE, Int.reduceBEq, Int.reduceBNe, Int.reduceToNat, Int.reduceNeg, Int.reduceSub, Int.reduceAdd, hg, hq2, hq3, bytesOf_byL, strOf_byL, hq1, bne_self, hB, str_refl, e62]
end Go.Proofs.YtjmafbdakalknaaDoor
