/- Chapter 7's statement FsArms, by the walk over a heap. -/
import Derived.Test.YtjmafbdakalknaaDoorFsArmsP
set_option linter.unusedVariables false
set_option linter.unusedSimpArgs false
namespace Go.Proofs.YtjmafbdakalknaaDoor
open Go Go.RowKit Hv
set_option maxRecDepth 20000
set_option maxHeartbeats 8000000
theorem FsArms_h (n0 : Int) (row : List DeedD) : Hv.ACalls Tryd.prog 4 [.lit (.int .i64 n0), .sl (row.map deedI)] (.lit (.bool true)) := by
  refine acallsC_of (rs := [.tmp 4]) ⟨[0, 1, 4, 5, 6, 7, 8, 10, 12, 23, 38, 47, 48, 54, 58, 96], [], [], []⟩ TOk mixed Tryd.func4 rfl rfl (by kernel_rfl) (by kernel_rfl) rfl (by simp [noId_deeds, noId_lit]) (.lit _) ?_
  simp only [push_cast, Nat.reduceBEq, Nat.reduceAdd, Nat.reduceEqDiff, reduceCtorEq, Nat.reduceLeDiff, Nat.reduceSub, Nat.reduceMul, Nat.reduceLT, Int.reduceEq, Int.reduceLT, Int.reduceLE, Int.reduceBEq, Int.reduceBNe, Int.reduceToNat, Int.reduceNeg, Int.reduceSub, Int.reduceAdd]
  refine callH files_c ?_
  rintro _ Ha na ⟨rfl, hna, ka⟩
  simp only [push_cast, Nat.reduceBEq, Nat.reduceAdd, Nat.reduceEqDiff, reduceCtorEq, Nat.reduceLeDiff, Nat.reduceSub, Nat.reduceMul, Nat.reduceLT, Int.reduceEq, Int.reduceLT, Int.reduceLE, Int.reduceBEq, Int.reduceBNe, Int.reduceToNat, Int.reduceNeg, Int.reduceSub, Int.reduceAdd]
  refine callH (new_c (by decide)) ?_
  rintro _ H0 n1 ⟨rfl, S0, h0, hn0, k0⟩
  simp only [push_cast, Nat.reduceBEq, Nat.reduceAdd, Nat.reduceEqDiff, reduceCtorEq, Nat.reduceLeDiff, Nat.reduceSub, Nat.reduceMul, Nat.reduceLT, Int.reduceEq, Int.reduceLT, Int.reduceLE, Int.reduceBEq, Int.reduceBNe, Int.reduceToNat, Int.reduceNeg, Int.reduceSub, Int.reduceAdd]
  refine callH (create_c h0 (by decide) nA) ?_
  rintro _ H1 n2 ⟨rfl, S1, h1, hn1, k1⟩
  rw [cuts1] at h1
  obtain ⟨n, hn, hm1, hm2⟩ := u64_mod n0 (K := 50) (by decide) (by decide)
  have hm1 : (IntKind.u64.wrap n0).tmod 50 = (n : Int) := hm1
  simp only [push_cast, Nat.reduceBEq, Nat.reduceAdd, Nat.reduceEqDiff, reduceCtorEq, Nat.reduceLeDiff, Nat.reduceSub, Nat.reduceMul, Nat.reduceLT, Int.reduceEq, Int.reduceLT, Int.reduceLE, Int.reduceBEq, Int.reduceBNe, Int.reduceToNat, Int.reduceNeg, Int.reduceSub, Int.reduceAdd, cuts1, hm1, hm2]
  refine callH (arm_c h1 (by omega)) ?_
  rintro _ H2 n2 ⟨rfl, S2, h2, hn2, k2⟩
  simp only [push_cast, Nat.reduceBEq, Nat.reduceAdd, Nat.reduceEqDiff, reduceCtorEq, Nat.reduceLeDiff, Nat.reduceSub, Nat.reduceMul, Nat.reduceLT, Int.reduceEq, Int.reduceLT, Int.reduceLE, Int.reduceBEq, Int.reduceBNe, Int.reduceToNat, Int.reduceNeg, Int.reduceSub, Int.reduceAdd]
  refine loopK (fun q s => ∃ (k : Nat) (d : FsD) (H : Hp) (nn : Nat) (S : Nat → Prop), s = ⟨[(0, .lit (.int .i64 (n : Int))), (1, .sl (row.map deedI)), (5, .ptr (na + 2) 0), (7, .lit (.int .i64 (k : Int)))], H, nn⟩ ∧ k ≤ row.length ∧ k ≤ 60 ∧ q = row.length - k ∧ FsS H nn S (na + 2) d ∧ ArmI n k d) _ [0, 1, 5, 7] ⟨0, _, H2, n2, S2, rfl, Nat.zero_le _, Nat.zero_le _, rfl, h2, arm_start⟩ ?_
  clear h2 k2 hn2 h1 k1 h0 k0
  rintro q _ ⟨k, d, H, nn, S, rfl, hkl, hk60, rfl, h, hI⟩
  have hw1 := hI.base.wait
  by_cases hk : k < row.length
  · by_cases hk' : (k : Int) < 60
    · obtain ⟨x, hx⟩ : ∃ x, row[k]? = some x := ⟨_, List.getElem?_eq_getElem hk⟩
      obtain ⟨c, hc, hc1, hc2⟩ := u64_mod x.call (K := 3) (by decide) (by decide)
      have hc1 : (IntKind.u64.wrap x.call).tmod 3 = (c : Int) := hc1
      have hw := wrap_nat0 (k := k) (by omega)
      obtain rfl | rfl | rfl : c = 0 ∨ c = 1 ∨ c = 2 := by omega
      · simp only [push_cast, Nat.reduceBEq, Nat.reduceAdd, Nat.reduceEqDiff, reduceCtorEq, Nat.reduceLeDiff, Nat.reduceSub, Nat.reduceMul, Nat.reduceLT, Int.reduceEq, Int.reduceLT, Int.reduceLE, Int.reduceBEq, Int.reduceBNe, Int.reduceToNat, Int.reduceNeg, Int.reduceSub, Int.reduceAdd, hk, hk', hx, hc1, deedI]
        refine callH (append_c (h.new (Nat.le_refl _) (Nat.le_succ _)) nA (b := [120]) (.inl ⟨nn, _, rfl, Nat.lt_succ_self _, h.nu (Nat.le_refl _), upd_same _ _ _⟩) (by decide)) ?_
        rintro _ H3 n3 ⟨rfl, S3, h3, hn3, k3⟩
        obtain ⟨hI3, he3⟩ := arm_append hI hk60
        have hsz := hI3.sizeIs
        have hof := hI3.offIs
        obtain ⟨d3, hd3⟩ : ∃ d3, (d.append nA [120]).1 = d3 := ⟨_, rfl⟩
        rw [hd3] at h3 hI3 hsz hof
        by_cases hkn : k < n
        · rw [if_pos hkn] at he3 hsz
          have hof : d3.off = false := hof.trans (decide_eq_false (by omega))
          have hkn' : (k : Int) < (n : Int) := by omega
          have hkn'' : ¬ (k : Int) ≥ (n : Int) := by omega
          simp only [push_cast, Nat.reduceBEq, Nat.reduceAdd, Nat.reduceEqDiff, reduceCtorEq, Nat.reduceLeDiff, Nat.reduceSub, Nat.reduceMul, Nat.reduceLT, Int.reduceEq, Int.reduceLT, Int.reduceLE, Int.reduceBEq, Int.reduceBNe, Int.reduceToNat, Int.reduceNeg, Int.reduceSub, Int.reduceAdd, he3]
          refine callH (size_c h3 nA) ?_
          rintro _ _ _ ⟨rfl, rfl, rfl⟩
          simp only [push_cast, Nat.reduceBEq, Nat.reduceAdd, Nat.reduceEqDiff, reduceCtorEq, Nat.reduceLeDiff, Nat.reduceSub, Nat.reduceMul, Nat.reduceLT, Int.reduceEq, Int.reduceLT, Int.reduceLE, Int.reduceBEq, Int.reduceBNe, Int.reduceToNat, Int.reduceNeg, Int.reduceSub, Int.reduceAdd, hsz, hkn, hkn', hkn'', he3]
          refine callH (off_c h3) ?_
          rintro _ _ _ ⟨rfl, rfl, rfl⟩
          simp only [push_cast, Nat.reduceBEq, Nat.reduceAdd, Nat.reduceEqDiff, reduceCtorEq, Nat.reduceLeDiff, Nat.reduceSub, Nat.reduceMul, Nat.reduceLT, Int.reduceEq, Int.reduceLT, Int.reduceLE, Int.reduceBEq, Int.reduceBNe, Int.reduceToNat, Int.reduceNeg, Int.reduceSub, Int.reduceAdd, hof, hkn, hkn', hkn'', hw]
          exact ⟨_, by omega, k + 1, d3, _, _, S3, rfl, by omega, by omega, rfl, h3, hI3⟩
        · rw [if_neg hkn] at he3 hsz
          have hof : d3.off = true := hof.trans (decide_eq_true (by omega))
          have hkn' : ¬ (k : Int) < (n : Int) := by omega
          have hkn'' : (k : Int) ≥ (n : Int) := by omega
          simp only [push_cast, Nat.reduceBEq, Nat.reduceAdd, Nat.reduceEqDiff, reduceCtorEq, Nat.reduceLeDiff, Nat.reduceSub, Nat.reduceMul, Nat.reduceLT, Int.reduceEq, Int.reduceLT, Int.reduceLE, Int.reduceBEq, Int.reduceBNe, Int.reduceToNat, Int.reduceNeg, Int.reduceSub, Int.reduceAdd, he3]
          refine callH (size_c h3 nA) ?_
          rintro _ _ _ ⟨rfl, rfl, rfl⟩
          simp only [push_cast, Nat.reduceBEq, Nat.reduceAdd, Nat.reduceEqDiff, reduceCtorEq, Nat.reduceLeDiff, Nat.reduceSub, Nat.reduceMul, Nat.reduceLT, Int.reduceEq, Int.reduceLT, Int.reduceLE, Int.reduceBEq, Int.reduceBNe, Int.reduceToNat, Int.reduceNeg, Int.reduceSub, Int.reduceAdd, hsz, hkn, hkn', hkn'', he3]
          refine callH (off_c h3) ?_
          rintro _ _ _ ⟨rfl, rfl, rfl⟩
          simp only [push_cast, Nat.reduceBEq, Nat.reduceAdd, Nat.reduceEqDiff, reduceCtorEq, Nat.reduceLeDiff, Nat.reduceSub, Nat.reduceMul, Nat.reduceLT, Int.reduceEq, Int.reduceLT, Int.reduceLE, Int.reduceBEq, Int.reduceBNe, Int.reduceToNat, Int.reduceNeg, Int.reduceSub, Int.reduceAdd, hof, hkn, hkn', hkn'', hw]
          exact ⟨_, by omega, k + 1, d3, _, _, S3, rfl, by omega, by omega, rfl, h3, hI3⟩
      · simp only [push_cast, Nat.reduceBEq, Nat.reduceAdd, Nat.reduceEqDiff, reduceCtorEq, Nat.reduceLeDiff, Nat.reduceSub, Nat.reduceMul, Nat.reduceLT, Int.reduceEq, Int.reduceLT, Int.reduceLE, Int.reduceBEq, Int.reduceBNe, Int.reduceToNat, Int.reduceNeg, Int.reduceSub, Int.reduceAdd, hk, hk', hx, hc1, deedI]
        refine callH (sync_c h nA) ?_
        rintro _ H3 n3 ⟨rfl, S3, h3, hn3, k3⟩
        obtain ⟨hI3, he3⟩ := arm_sync hI
        have hsz := hI3.sizeIs
        have hof := hI3.offIs
        obtain ⟨d3, hd3⟩ : ∃ d3, (d.sync nA).1 = d3 := ⟨_, rfl⟩
        rw [hd3] at h3 hI3 hsz hof
        by_cases hkn : k < n
        · rw [if_pos hkn] at he3 hsz
          have hof : d3.off = false := hof.trans (decide_eq_false (by omega))
          have hkn' : (k : Int) < (n : Int) := by omega
          have hkn'' : ¬ (k : Int) ≥ (n : Int) := by omega
          simp only [push_cast, Nat.reduceBEq, Nat.reduceAdd, Nat.reduceEqDiff, reduceCtorEq, Nat.reduceLeDiff, Nat.reduceSub, Nat.reduceMul, Nat.reduceLT, Int.reduceEq, Int.reduceLT, Int.reduceLE, Int.reduceBEq, Int.reduceBNe, Int.reduceToNat, Int.reduceNeg, Int.reduceSub, Int.reduceAdd, he3]
          refine callH (size_c h3 nA) ?_
          rintro _ _ _ ⟨rfl, rfl, rfl⟩
          simp only [push_cast, Nat.reduceBEq, Nat.reduceAdd, Nat.reduceEqDiff, reduceCtorEq, Nat.reduceLeDiff, Nat.reduceSub, Nat.reduceMul, Nat.reduceLT, Int.reduceEq, Int.reduceLT, Int.reduceLE, Int.reduceBEq, Int.reduceBNe, Int.reduceToNat, Int.reduceNeg, Int.reduceSub, Int.reduceAdd, hsz, hkn, hkn', hkn'', he3]
          refine callH (off_c h3) ?_
          rintro _ _ _ ⟨rfl, rfl, rfl⟩
          simp only [push_cast, Nat.reduceBEq, Nat.reduceAdd, Nat.reduceEqDiff, reduceCtorEq, Nat.reduceLeDiff, Nat.reduceSub, Nat.reduceMul, Nat.reduceLT, Int.reduceEq, Int.reduceLT, Int.reduceLE, Int.reduceBEq, Int.reduceBNe, Int.reduceToNat, Int.reduceNeg, Int.reduceSub, Int.reduceAdd, hof, hkn, hkn', hkn'', hw]
          exact ⟨_, by omega, k + 1, d3, _, _, S3, rfl, by omega, by omega, rfl, h3, hI3⟩
        · rw [if_neg hkn] at he3 hsz
          have hof : d3.off = true := hof.trans (decide_eq_true (by omega))
          have hkn' : ¬ (k : Int) < (n : Int) := by omega
          have hkn'' : (k : Int) ≥ (n : Int) := by omega
          simp only [push_cast, Nat.reduceBEq, Nat.reduceAdd, Nat.reduceEqDiff, reduceCtorEq, Nat.reduceLeDiff, Nat.reduceSub, Nat.reduceMul, Nat.reduceLT, Int.reduceEq, Int.reduceLT, Int.reduceLE, Int.reduceBEq, Int.reduceBNe, Int.reduceToNat, Int.reduceNeg, Int.reduceSub, Int.reduceAdd, he3]
          refine callH (size_c h3 nA) ?_
          rintro _ _ _ ⟨rfl, rfl, rfl⟩
          simp only [push_cast, Nat.reduceBEq, Nat.reduceAdd, Nat.reduceEqDiff, reduceCtorEq, Nat.reduceLeDiff, Nat.reduceSub, Nat.reduceMul, Nat.reduceLT, Int.reduceEq, Int.reduceLT, Int.reduceLE, Int.reduceBEq, Int.reduceBNe, Int.reduceToNat, Int.reduceNeg, Int.reduceSub, Int.reduceAdd, hsz, hkn, hkn', hkn'', he3]
          refine callH (off_c h3) ?_
          rintro _ _ _ ⟨rfl, rfl, rfl⟩
          simp only [push_cast, Nat.reduceBEq, Nat.reduceAdd, Nat.reduceEqDiff, reduceCtorEq, Nat.reduceLeDiff, Nat.reduceSub, Nat.reduceMul, Nat.reduceLT, Int.reduceEq, Int.reduceLT, Int.reduceLE, Int.reduceBEq, Int.reduceBNe, Int.reduceToNat, Int.reduceNeg, Int.reduceSub, Int.reduceAdd, hof, hkn, hkn', hkn'', hw]
          exact ⟨_, by omega, k + 1, d3, _, _, S3, rfl, by omega, by omega, rfl, h3, hI3⟩
      · have hc1 : (IntKind.u64.wrap x.call).tmod 3 = 2 := hc1
        simp only [push_cast, Nat.reduceBEq, Nat.reduceAdd, Nat.reduceEqDiff, reduceCtorEq, Nat.reduceLeDiff, Nat.reduceSub, Nat.reduceMul, Nat.reduceLT, Int.reduceEq, Int.reduceLT, Int.reduceLE, Int.reduceBEq, Int.reduceBNe, Int.reduceToNat, Int.reduceNeg, Int.reduceSub, Int.reduceAdd, hk, hk', hx, hc1, deedI]
        refine callH (syncDir_c h) ?_
        rintro _ H3 n3 ⟨rfl, S3, h3, hn3, k3⟩
        obtain ⟨hI3, he3⟩ := arm_syncDir hI
        have hsz := hI3.sizeIs
        have hof := hI3.offIs
        obtain ⟨d3, hd3⟩ : ∃ d3, d.syncDir.1 = d3 := ⟨_, rfl⟩
        rw [hd3] at h3 hI3 hsz hof
        by_cases hkn : k < n
        · rw [if_pos hkn] at he3 hsz
          have hof : d3.off = false := hof.trans (decide_eq_false (by omega))
          have hkn' : (k : Int) < (n : Int) := by omega
          have hkn'' : ¬ (k : Int) ≥ (n : Int) := by omega
          simp only [push_cast, Nat.reduceBEq, Nat.reduceAdd, Nat.reduceEqDiff, reduceCtorEq, Nat.reduceLeDiff, Nat.reduceSub, Nat.reduceMul, Nat.reduceLT, Int.reduceEq, Int.reduceLT, Int.reduceLE, Int.reduceBEq, Int.reduceBNe, Int.reduceToNat, Int.reduceNeg, Int.reduceSub, Int.reduceAdd, he3]
          refine callH (size_c h3 nA) ?_
          rintro _ _ _ ⟨rfl, rfl, rfl⟩
          simp only [push_cast, Nat.reduceBEq, Nat.reduceAdd, Nat.reduceEqDiff, reduceCtorEq, Nat.reduceLeDiff, Nat.reduceSub, Nat.reduceMul, Nat.reduceLT, Int.reduceEq, Int.reduceLT, Int.reduceLE, Int.reduceBEq, Int.reduceBNe, Int.reduceToNat, Int.reduceNeg, Int.reduceSub, Int.reduceAdd, hsz, hkn, hkn', hkn'', he3]
          refine callH (off_c h3) ?_
          rintro _ _ _ ⟨rfl, rfl, rfl⟩
          simp only [push_cast, Nat.reduceBEq, Nat.reduceAdd, Nat.reduceEqDiff, reduceCtorEq, Nat.reduceLeDiff, Nat.reduceSub, Nat.reduceMul, Nat.reduceLT, Int.reduceEq, Int.reduceLT, Int.reduceLE, Int.reduceBEq, Int.reduceBNe, Int.reduceToNat, Int.reduceNeg, Int.reduceSub, Int.reduceAdd, hof, hkn, hkn', hkn'', hw]
          exact ⟨_, by omega, k + 1, d3, _, _, S3, rfl, by omega, by omega, rfl, h3, hI3⟩
        · rw [if_neg hkn] at he3 hsz
          have hof : d3.off = true := hof.trans (decide_eq_true (by omega))
          have hkn' : ¬ (k : Int) < (n : Int) := by omega
          have hkn'' : (k : Int) ≥ (n : Int) := by omega
          simp only [push_cast, Nat.reduceBEq, Nat.reduceAdd, Nat.reduceEqDiff, reduceCtorEq, Nat.reduceLeDiff, Nat.reduceSub, Nat.reduceMul, Nat.reduceLT, Int.reduceEq, Int.reduceLT, Int.reduceLE, Int.reduceBEq, Int.reduceBNe, Int.reduceToNat, Int.reduceNeg, Int.reduceSub, Int.reduceAdd, he3]
          refine callH (size_c h3 nA) ?_
          rintro _ _ _ ⟨rfl, rfl, rfl⟩
          simp only [push_cast, Nat.reduceBEq, Nat.reduceAdd, Nat.reduceEqDiff, reduceCtorEq, Nat.reduceLeDiff, Nat.reduceSub, Nat.reduceMul, Nat.reduceLT, Int.reduceEq, Int.reduceLT, Int.reduceLE, Int.reduceBEq, Int.reduceBNe, Int.reduceToNat, Int.reduceNeg, Int.reduceSub, Int.reduceAdd, hsz, hkn, hkn', hkn'', he3]
          refine callH (off_c h3) ?_
          rintro _ _ _ ⟨rfl, rfl, rfl⟩
          simp only [push_cast, Nat.reduceBEq, Nat.reduceAdd, Nat.reduceEqDiff, reduceCtorEq, Nat.reduceLeDiff, Nat.reduceSub, Nat.reduceMul, Nat.reduceLT, Int.reduceEq, Int.reduceLT, Int.reduceLE, Int.reduceBEq, Int.reduceBNe, Int.reduceToNat, Int.reduceNeg, Int.reduceSub, Int.reduceAdd, hof, hkn, hkn', hkn'', hw]
          exact ⟨_, by omega, k + 1, d3, _, _, S3, rfl, by omega, by omega, rfl, h3, hI3⟩
    · clear hI
      simp only [push_cast, Nat.reduceBEq, Nat.reduceAdd, Nat.reduceEqDiff, reduceCtorEq, Nat.reduceLeDiff, Nat.reduceSub, Nat.reduceMul, Nat.reduceLT, Int.reduceEq, Int.reduceLT, Int.reduceLE, Int.reduceBEq, Int.reduceBNe, Int.reduceToNat, Int.reduceNeg, Int.reduceSub, Int.reduceAdd, hk, hk']
      refine callH (crash_c (picks := [9, 9]) (h.new (Nat.le_refl _) (Nat.le_succ _)) (Nat.le_trans hw1 (by decide)) (.inr (.inr ⟨nn, [9, 9], 0, rfl, Nat.lt_succ_self _, upd_same _ _ _, rfl, by decide⟩))) ?_
      rintro _ H3 n3 ⟨rfl, S3, h3, hn3, k3⟩
      simp only [push_cast, Nat.reduceBEq, Nat.reduceAdd, Nat.reduceEqDiff, reduceCtorEq, Nat.reduceLeDiff, Nat.reduceSub, Nat.reduceMul, Nat.reduceLT, Int.reduceEq, Int.reduceLT, Int.reduceLE, Int.reduceBEq, Int.reduceBNe, Int.reduceToNat, Int.reduceNeg, Int.reduceSub, Int.reduceAdd]
      refine callH (off_c h3) ?_
      rintro _ _ _ ⟨rfl, rfl, rfl⟩
      simp only [push_cast, Nat.reduceBEq, Nat.reduceAdd, Nat.reduceEqDiff, reduceCtorEq, Nat.reduceLeDiff, Nat.reduceSub, Nat.reduceMul, Nat.reduceLT, Int.reduceEq, Int.reduceLT, Int.reduceLE, Int.reduceBEq, Int.reduceBNe, Int.reduceToNat, Int.reduceNeg, Int.reduceSub, Int.reduceAdd, (crash_on d [9, 9]).1]
      refine callH (syncDir_c h3) ?_
      rintro _ H4 n4 ⟨rfl, S4, h4, hn4, k4⟩
      simp only [push_cast, Nat.reduceBEq, Nat.reduceAdd, Nat.reduceEqDiff, reduceCtorEq, Nat.reduceLeDiff, Nat.reduceSub, Nat.reduceMul, Nat.reduceLT, Int.reduceEq, Int.reduceLT, Int.reduceLE, Int.reduceBEq, Int.reduceBNe, Int.reduceToNat, Int.reduceNeg, Int.reduceSub, Int.reduceAdd, (crash_on d [9, 9]).2]
  · clear hI
    simp only [push_cast, Nat.reduceBEq, Nat.reduceAdd, Nat.reduceEqDiff, reduceCtorEq, Nat.reduceLeDiff, Nat.reduceSub, Nat.reduceMul, Nat.reduceLT, Int.reduceEq, Int.reduceLT, Int.reduceLE, Int.reduceBEq, Int.reduceBNe, Int.reduceToNat, Int.reduceNeg, Int.reduceSub, Int.reduceAdd, hk]
    refine callH (crash_c (picks := [9, 9]) (h.new (Nat.le_refl _) (Nat.le_succ _)) (Nat.le_trans hw1 (by decide)) (.inr (.inr ⟨nn, [9, 9], 0, rfl, Nat.lt_succ_self _, upd_same _ _ _, rfl, by decide⟩))) ?_
    rintro _ H3 n3 ⟨rfl, S3, h3, hn3, k3⟩
    simp only [push_cast, Nat.reduceBEq, Nat.reduceAdd, Nat.reduceEqDiff, reduceCtorEq, Nat.reduceLeDiff, Nat.reduceSub, Nat.reduceMul, Nat.reduceLT, Int.reduceEq, Int.reduceLT, Int.reduceLE, Int.reduceBEq, Int.reduceBNe, Int.reduceToNat, Int.reduceNeg, Int.reduceSub, Int.reduceAdd]
    refine callH (off_c h3) ?_
    rintro _ _ _ ⟨rfl, rfl, rfl⟩
    simp only [push_cast, Nat.reduceBEq, Nat.reduceAdd, Nat.reduceEqDiff, reduceCtorEq, Nat.reduceLeDiff, Nat.reduceSub, Nat.reduceMul, Nat.reduceLT, Int.reduceEq, Int.reduceLT, Int.reduceLE, Int.reduceBEq, Int.reduceBNe, Int.reduceToNat, Int.reduceNeg, Int.reduceSub, Int.reduceAdd, (crash_on d [9, 9]).1]
    refine callH (syncDir_c h3) ?_
    rintro _ H4 n4 ⟨rfl, S4, h4, hn4, k4⟩
    simp only [push_cast, Nat.reduceBEq, Nat.reduceAdd, Nat.reduceEqDiff, reduceCtorEq, Nat.reduceLeDiff, Nat.reduceSub, Nat.reduceMul, Nat.reduceLT, Int.reduceEq, Int.reduceLT, Int.reduceLE, Int.reduceBEq, Int.reduceBNe, Int.reduceToNat, Int.reduceNeg, Int.reduceSub, Int.reduceAdd, (crash_on d [9, 9]).2]
end Go.Proofs.YtjmafbdakalknaaDoor
