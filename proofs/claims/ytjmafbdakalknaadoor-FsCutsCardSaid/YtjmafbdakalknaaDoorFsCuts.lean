/- Chapter 7's statement FsCuts, by the walk over a heap. -/
import Derived.Test.YtjmafbdakalknaaDoorFsCutsP
import Derived.Test.YtjmafbdakalknaaDoorFsC
set_option linter.unusedVariables false
set_option linter.unusedSimpArgs false
namespace Go.Proofs.YtjmafbdakalknaaDoor
open Go Go.RowKit Hv
set_option maxRecDepth 200000
set_option maxHeartbeats 16000000
theorem FsCuts_h (sure more : ByteArray) (picks : List Int) (hp : picks.length * 8 ≤ 140737488355328) : Hv.ACalls Tryd.prog 3 [.lit (.string sure), .lit (.string more), .sl (picks.map intI)] (.lit (.bool true)) := by
  refine acallsC_of (rs := [.tmp 6]) ⟨[0, 1, 2, 6, 7, 8, 9, 10, 11, 12, 14, 59, 97, 138], [], [], [(3, [(0, [], []), (1, [], []), (2, [], []), (3, [], []), (4, [], []), (5, [], []), (6, [], []), (7, [], []), (8, [], []), (9, [], []), (10, [7], [4, 0, 1, 2, 3]), (11, [], [9, 10, 0, 1, 2, 3, 4, 5, 6, 7, 8])]), (13, [(0, [], []), (1, [], []), (2, [], []), (3, [], []), (4, [], []), (5, [], []), (6, [], []), (7, [], []), (8, [], []), (9, [], []), (10, [], []), (11, [], []), (12, [], []), (13, [], []), (14, [], []), (15, [], []), (16, [], []), (17, [], []), (18, [], []), (19, [], []), (20, [], []), (21, [], []), (22, [], []), (23, [], []), (24, [], []), (25, [], []), (26, [], []), (27, [], []), (28, [], []), (29, [], []), (30, [], []), (31, [], []), (32, [], []), (33, [], []), (34, [], []), (35, [], []), (36, [], []), (37, [], []), (38, [], []), (39, [], []), (40, [], [])])]⟩ TOk mixed Tryd.func3 rfl rfl (by kernel_rfl) (by kernel_rfl) rfl (by simp [noId_ints, noId_lit]) (.lit _) ?_
  simp only [push_cast, Nat.reduceBEq, Nat.reduceAdd, Nat.reduceEqDiff, reduceCtorEq, Nat.reduceLeDiff, Nat.reduceSub, Nat.reduceMul, Nat.reduceLT, Int.reduceEq, Int.reduceLT, Int.reduceLE, Int.reduceBEq, Int.reduceBNe, Int.reduceToNat, Int.reduceNeg, Int.reduceSub, Int.reduceAdd]
  refine callH files_c ?_
  rintro _ Ha na ⟨rfl, hna, ka⟩
  obtain ⟨k, hk, hk1, hk2⟩ : ∃ k : Nat, (if (3000 : Int) < (sure.size : Int) then (3000 : Int) else (sure.size : Int)) = (k : Int) ∧ k ≤ sure.size ∧ k ≤ 3000 := by
    by_cases h : (3000 : Int) < (sure.size : Int)
    · exact ⟨3000, if_pos h, by omega, by omega⟩
    · exact ⟨sure.size, if_neg h, by omega, by omega⟩
  obtain ⟨m, hm, hm1, hm2⟩ : ∃ k : Nat, (if (3000 : Int) < (more.size : Int) then (3000 : Int) else (more.size : Int)) = (k : Int) ∧ k ≤ more.size ∧ k ≤ 3000 := by
    by_cases h : (3000 : Int) < (more.size : Int)
    · exact ⟨3000, if_pos h, by omega, by omega⟩
    · exact ⟨more.size, if_neg h, by omega, by omega⟩
  have hk3 : (0 : Int) ≤ (k : Int) := by omega
  have hm3 : (0 : Int) ≤ (m : Int) := by omega
  have hk4 : (k : Int) ≤ (sure.size : Int) := by omega
  have hm4 : (m : Int) ≤ (more.size : Int) := by omega
  have hk5 : (k : Int).toNat = k := by omega
  have hm5 : (m : Int).toNat = m := by omega
  obtain ⟨su, hsu, hsl⟩ : ∃ su, sure.extract 0 k = su ∧ su.size ≤ 3000 := ⟨_, rfl, by rw [ByteArray.size_extract]; omega⟩
  obtain ⟨mo, hmo, hml⟩ : ∃ su, more.extract 0 m = su ∧ su.size ≤ 3000 := ⟨_, rfl, by rw [ByteArray.size_extract]; omega⟩
  have hsz : su.size.ble 140737488355328 = true := by rw [Nat.ble_eq]; omega
  have hmz : mo.size.ble 140737488355328 = true := by rw [Nat.ble_eq]; omega
  have hml' : su.data.toList.length + mo.data.toList.length ≤ 6000 := by
    have e1 : su.data.toList.length = su.size := rfl
    have e2 : mo.data.toList.length = mo.size := rfl
    omega
  have c5 := cuts5 ⟨su.data.toList, su.data.toList.length⟩ mo.data.toList hml'
  dsimp only at c5
  have hpi : (∀ it ∈ picks.map intI, it.length = 1) = True := eq_true fun it hit => by obtain ⟨z, _, rfl⟩ := List.mem_map.1 hit; rfl
  have hpj : (∀ it ∈ picks.map intI, it.length = 1 ∧ it.all AV.isOne = true) = True := eq_true fun it hit => by obtain ⟨z, _, rfl⟩ := List.mem_map.1 hit; exact ⟨rfl, rfl⟩
  simp only [push_cast, Nat.reduceBEq, Nat.reduceAdd, Nat.reduceEqDiff, reduceCtorEq, Nat.reduceLeDiff, Nat.reduceSub, Nat.reduceMul, Nat.reduceLT, Int.reduceEq, Int.reduceLT, Int.reduceLE, Int.reduceBEq, Int.reduceBNe, Int.reduceToNat, Int.reduceNeg, Int.reduceSub, Int.reduceAdd, hk, hm, hk3, hm3, hk4, hm4, hk5, hm5, hsu, hmo]
  refine callH (new_c (by decide)) ?_
  rintro _ H0 n0 ⟨rfl, S0, h0, hn0, k0⟩
  simp only [push_cast, Nat.reduceBEq, Nat.reduceAdd, Nat.reduceEqDiff, reduceCtorEq, Nat.reduceLeDiff, Nat.reduceSub, Nat.reduceMul, Nat.reduceLT, Int.reduceEq, Int.reduceLT, Int.reduceLE, Int.reduceBEq, Int.reduceBNe, Int.reduceToNat, Int.reduceNeg, Int.reduceSub, Int.reduceAdd]
  refine callH (create_c h0 (by decide) nA) ?_
  rintro _ H1 n1 ⟨rfl, S1, h1, hn1, k1⟩
  rw [cuts1] at h1
  simp only [push_cast, Nat.reduceBEq, Nat.reduceAdd, Nat.reduceEqDiff, reduceCtorEq, Nat.reduceLeDiff, Nat.reduceSub, Nat.reduceMul, Nat.reduceLT, Int.reduceEq, Int.reduceLT, Int.reduceLE, Int.reduceBEq, Int.reduceBNe, Int.reduceToNat, Int.reduceNeg, Int.reduceSub, Int.reduceAdd, cuts1, hsz]
  refine callH (append_s h1 nA su (by omega)) ?_
  rintro _ H2 n2 ⟨rfl, S2, h2, hn2, k2⟩
  rw [cuts2 _ hsl] at h2
  simp only [push_cast, Nat.reduceBEq, Nat.reduceAdd, Nat.reduceEqDiff, reduceCtorEq, Nat.reduceLeDiff, Nat.reduceSub, Nat.reduceMul, Nat.reduceLT, Int.reduceEq, Int.reduceLT, Int.reduceLE, Int.reduceBEq, Int.reduceBNe, Int.reduceToNat, Int.reduceNeg, Int.reduceSub, Int.reduceAdd, cuts2 _ hsl]
  refine callH (sync_c h2 nA) ?_
  rintro _ H3 n3 ⟨rfl, S3, h3, hn3, k3⟩
  rw [cuts3] at h3
  simp only [push_cast, Nat.reduceBEq, Nat.reduceAdd, Nat.reduceEqDiff, reduceCtorEq, Nat.reduceLeDiff, Nat.reduceSub, Nat.reduceMul, Nat.reduceLT, Int.reduceEq, Int.reduceLT, Int.reduceLE, Int.reduceBEq, Int.reduceBNe, Int.reduceToNat, Int.reduceNeg, Int.reduceSub, Int.reduceAdd, cuts3]
  refine callH (syncDir_c h3) ?_
  rintro _ H4 n4 ⟨rfl, S4, h4, hn4, k4⟩
  rw [cuts4] at h4
  simp only [push_cast, Nat.reduceBEq, Nat.reduceAdd, Nat.reduceEqDiff, reduceCtorEq, Nat.reduceLeDiff, Nat.reduceSub, Nat.reduceMul, Nat.reduceLT, Int.reduceEq, Int.reduceLT, Int.reduceLE, Int.reduceBEq, Int.reduceBNe, Int.reduceToNat, Int.reduceNeg, Int.reduceSub, Int.reduceAdd, cuts4, hmz]
  refine callH (append_s h4 nA mo (by omega)) ?_
  rintro _ H5 n5 ⟨rfl, S5, h5, hn5, k5⟩
  rw [c5] at h5
  simp only [push_cast, Nat.reduceBEq, Nat.reduceAdd, Nat.reduceEqDiff, reduceCtorEq, Nat.reduceLeDiff, Nat.reduceSub, Nat.reduceMul, Nat.reduceLT, Int.reduceEq, Int.reduceLT, Int.reduceLE, Int.reduceBEq, Int.reduceBNe, Int.reduceToNat, Int.reduceNeg, Int.reduceSub, Int.reduceAdd, c5, List.not_mem_nil, false_implies, hpi, hpj, hp]
  refine callH (crash_c (n := n5 + 1 + 1) (picks := picks) (h5.new3 (by omega) (by omega) (by omega) (by omega)) (Nat.zero_le _) (.inr (.inr ⟨n5 + 1, picks, 0, rfl, by omega, upd_same _ _ _, rfl, by omega⟩))) ?_
  rintro _ H6 n6 ⟨rfl, S6, h6, hn6, k6⟩
  rw [cuts6] at h6
  clear h0 h1 h2 h3 h4 h5 k0 k1 k2 k3 k4 k5 k6 hk hm
  have hcl := oneCut_last ⟨su.data.toList ++ mo.data.toList, su.data.toList.length⟩ picks
  obtain ⟨r, hr⟩ : ∃ r, (oneCut ⟨su.data.toList ++ mo.data.toList, su.data.toList.length⟩ picks).b = r := ⟨_, rfl⟩
  have hcut := oneCut_is su.data.toList mo.data.toList picks hr
  have hx : oneCut ⟨su.data.toList ++ mo.data.toList, su.data.toList.length⟩ picks = ⟨r, r.length⟩ := by rw [← hr, ← hcl]
  rw [hx] at h6
  clear hcl hr hx
  have hrl : r.length ≤ 6000 := by have := hcut.2.1; rw [List.length_append] at this; omega
  have esu : su.data.toList.length = su.size := rfl
  have emo : mo.data.toList.length = mo.size := rfl
  have hsum : (9223372036854775807 < su.size + mo.size) = False := eq_false (by omega)
  have f0 : (0 : Int) ≤ (su.size : Int) := by omega
  have f1 : ¬ (r.length : Int) < (su.size : Int) := by have := hcut.1; omega
  have f2 : (su.size : Int) ≤ (r.length : Int) := by omega
  have f3 : ((su.size : Int) - 0).toNat = su.size := by omega
  have f4 : Nat.ble su.size (byL r).length = true := by rw [Nat.ble_eq, byL_len]; omega
  obtain ⟨al, hal⟩ : ∃ al, su ++ mo = al := ⟨_, rfl⟩
  have hals : al.size = su.size + mo.size := by rw [← hal, ByteArray.size_append]
  have f6 : ¬ (r.length : Int) > (al.size : Int) := by have := hcut.2.1; rw [List.length_append] at this; omega
  have hs1 : (⟨(r.take su.size).toArray⟩ : ByteArray) = su := by
    have := hcut.2.2.1
    rw [esu] at this
    rw [this]
  have hag : ∀ picks, (oneD ⟨r, r.length⟩).crash picks = oneD ⟨r, r.length⟩ := fun picks => by rw [cuts6, oneCut_again _ rfl]
  have hq1 : ((⟨r.toArray⟩ : ByteArray) == ⟨r.toArray⟩) = true := str_refl _
  have hq2 : Nat.ble r.length (byL r).length = true := by rw [Nat.ble_eq, byL_len]; exact Nat.le_refl _
  have hq3 : (byL r).take r.length = byL r := List.take_of_length_le (Nat.le_of_eq (byL_len r))
  simp only [push_cast, Nat.reduceBEq, Nat.reduceAdd, Nat.reduceEqDiff, reduceCtorEq, Nat.reduceLeDiff, Nat.reduceSub, Nat.reduceMul, Nat.reduceLT, Int.reduceEq, Int.reduceLT, Int.reduceLE, Int.reduceBEq, Int.reduceBNe, Int.reduceToNat, Int.reduceNeg, Int.reduceSub, Int.reduceAdd]
  refine callH (read_c h6 nA 0 1048576 (by decide)) ?_
  rintro _ H7 n7 h7
  rw [cuts7 ⟨r, r.length⟩ hrl] at h7
  obtain ⟨hn7, hk7, res, rfl, ⟨rfl, hh⟩ | ⟨g, gm, rfl, hg1, hg2, hg, hgm⟩⟩ := h7
  · have hh : r = [] := hh
    have hr0 : r.length = 0 := by rw [hh]; rfl
    have hsu0 : su.size = 0 := by omega
    have hsuE : su = ⟨#[]⟩ := str_nil (List.eq_nil_of_length_eq_zero hsu0)
    have z1 : ¬ (0 : Int) < (su.size : Int) := by omega
    have z2 : ¬ (0 : Int) > (al.size : Int) := by omega
    have z3 : (su.size : Int) ≤ (0 : Int) := by omega
    have z4 : ((⟨#[]⟩ : ByteArray) != su) = false := by rw [hsuE]; exact bne_self _
    have z5 : ((⟨#[]⟩ : ByteArray).toList == su.toList) = true := by rw [hsuE]; exact beq_self_eq_true _
    have z6 : ¬ (0 : Int) > (su.size : Int) := by omega
    have z7 : su.size = 0 := hsu0
    have z8 : (⟨r.toArray⟩ : ByteArray) = ⟨#[]⟩ := by rw [hh]
    have sz0 : (⟨#[]⟩ : ByteArray).size = 0 := rfl
    subst hsuE
    have hsum0 : (9223372036854775807 < 0 + mo.size) = False := eq_false (by omega)
    have hsum1 : (9223372036854775807 < mo.size) = False := eq_false (by omega)
    have z9 : ((⟨#[]⟩ : ByteArray).toList == (⟨#[]⟩ : ByteArray).toList) = true := beq_self_eq_true _
    have g00 : ¬ (0 : Int) > 0 := by omega
    simp (maxSteps := 400000) only [push_cast, Nat.reduceBEq, Nat.reduceAdd, Nat.reduceEqDiff, reduceCtorEq, Nat.reduceLeDiff, Nat.reduceSub, Nat.reduceMul, Nat.reduceLT, Int.reduceEq, Int.reduceLT, Int.reduceLE, Int.reduceBEq, Int.reduceBNe, Int.reduceToNat, Int.reduceNeg, Int.reduceSub, Int.reduceAdd, g00, hsum, hsum0, hsum1, hal, f0, z2, bytesOf_nil, strOf_nil, sz0, z9, List.take_nil, List.drop_nil, List.length_nil, implies_true, List.not_mem_nil, false_implies, hpi, hpj, hp]
    replace h6 := h6.same hn7 hk7
    refine callH (crash_c (n := n7 + 1 + 1) (picks := picks) (h6.new3 (by omega) (by omega) (by omega) (by omega)) (Nat.zero_le _) (.inr (.inr ⟨n7 + 1, picks, 0, rfl, by omega, upd_same _ _ _, rfl, by omega⟩))) ?_
    rintro _ H8 n8 ⟨rfl, S8, h8, hn8, k8⟩
    rw [hag] at h8
    simp (maxSteps := 400000) only [push_cast, Nat.reduceBEq, Nat.reduceAdd, Nat.reduceEqDiff, reduceCtorEq, Nat.reduceLeDiff, Nat.reduceSub, Nat.reduceMul, Nat.reduceLT, Int.reduceEq, Int.reduceLT, Int.reduceLE, Int.reduceBEq, Int.reduceBNe, Int.reduceToNat, Int.reduceNeg, Int.reduceSub, Int.reduceAdd]
    refine callH (read_c h8 nA 0 1048576 (by decide)) ?_
    rintro _ H9 n9 h9
    rw [cuts7 ⟨r, r.length⟩ hrl] at h9
    obtain ⟨hn9, hk9, res, rfl, ⟨rfl, hh'⟩ | ⟨g', gm', rfl, hg1', hg2', hg', hgm'⟩⟩ := h9
    · simp (maxSteps := 400000) only [push_cast, Nat.reduceBEq, Nat.reduceAdd, Nat.reduceEqDiff, reduceCtorEq, Nat.reduceLeDiff, Nat.reduceSub, Nat.reduceMul, Nat.reduceLT, Int.reduceEq, Int.reduceLT, Int.reduceLE, Int.reduceBEq, Int.reduceBNe, Int.reduceToNat, Int.reduceNeg, Int.reduceSub, Int.reduceAdd, bytesOf_nil, strOf_nil, z9, str_refl]
    · have z10 : ((⟨#[]⟩ : ByteArray) == ⟨#[]⟩) = true := str_refl _
      cases gm'
      · simp (maxSteps := 400000) only [push_cast, Nat.reduceBEq, Nat.reduceAdd, Nat.reduceEqDiff, reduceCtorEq, Nat.reduceLeDiff, Nat.reduceSub, Nat.reduceMul, Nat.reduceLT, Int.reduceEq, Int.reduceLT, Int.reduceLE, Int.reduceBEq, Int.reduceBNe, Int.reduceToNat, Int.reduceNeg, Int.reduceSub, Int.reduceAdd, hg', hq2, hq3, bytesOf_byL, strOf_byL, bytesOf_nil, strOf_nil, z8, z9, z10]
      · simp (maxSteps := 400000) only [push_cast, Nat.reduceBEq, Nat.reduceAdd, Nat.reduceEqDiff, reduceCtorEq, Nat.reduceLeDiff, Nat.reduceSub, Nat.reduceMul, Nat.reduceLT, Int.reduceEq, Int.reduceLT, Int.reduceLE, Int.reduceBEq, Int.reduceBNe, Int.reduceToNat, Int.reduceNeg, Int.reduceSub, Int.reduceAdd, hg', hq2, hq3, bytesOf_byL, strOf_byL, bytesOf_nil, strOf_nil, z8, z9, z10]
  · have hgS : ¬ S6 g := h6.nu hg1
    by_cases hgr : r.length = su.size
    · have f7 : ¬ (r.length : Int) > (su.size : Int) := by omega
      cases gm
      · simp (maxSteps := 400000) only [push_cast, Nat.reduceBEq, Nat.reduceAdd, Nat.reduceEqDiff, reduceCtorEq, Nat.reduceLeDiff, Nat.reduceSub, Nat.reduceMul, Nat.reduceLT, Int.reduceEq, Int.reduceLT, Int.reduceLE, Int.reduceBEq, Int.reduceBNe, Int.reduceToNat, Int.reduceNeg, Int.reduceSub, Int.reduceAdd, hsum, f0, f1, f2, f3, f4, f6, f7, hal, hg, byL_take, bytesOf_byL, strOf_byL, hs1, bne_self, str_refl, List.not_mem_nil, false_implies, hpi, hpj, hp]
        replace h6 := h6.same hn7 hk7
        refine callH (crash_c (n := n7 + 1 + 1) (picks := picks) (h6.new3 (by omega) (by omega) (by omega) (by omega)) (Nat.zero_le _) (.inr (.inr ⟨n7 + 1, picks, 0, rfl, by omega, upd_same _ _ _, rfl, by omega⟩))) ?_
        rintro _ H8 n8 ⟨rfl, S8, h8, hn8, k8⟩
        rw [hag] at h8
        have hg8 : H8 g = some (.row false 5 (byL r)) := ((k8 g (by omega) hgS).1).trans ((upd_other (by omega)).trans ((upd_other (by omega)).trans ((upd_other (by omega)).trans hg)))
        simp (maxSteps := 400000) only [push_cast, Nat.reduceBEq, Nat.reduceAdd, Nat.reduceEqDiff, reduceCtorEq, Nat.reduceLeDiff, Nat.reduceSub, Nat.reduceMul, Nat.reduceLT, Int.reduceEq, Int.reduceLT, Int.reduceLE, Int.reduceBEq, Int.reduceBNe, Int.reduceToNat, Int.reduceNeg, Int.reduceSub, Int.reduceAdd]
        refine callH (read_c h8 nA 0 1048576 (by decide)) ?_
        rintro _ H9 n9 h9
        rw [cuts7 ⟨r, r.length⟩ hrl] at h9
        obtain ⟨hn9, hk9, res, rfl, ⟨rfl, hh'⟩ | ⟨g', gm', rfl, hg1', hg2', hg', hgm'⟩⟩ := h9
        · have hh' : r = [] := hh'
          have hg9 : H9 g = some (.row false 5 (byL r)) := (hk9 g (by omega)).trans hg8
          have z8 : (⟨r.toArray⟩ : ByteArray) = ⟨#[]⟩ := by rw [hh']
          have z9 : ((⟨#[]⟩ : ByteArray).toList == (⟨#[]⟩ : ByteArray).toList) = true := beq_self_eq_true _
          simp (maxSteps := 400000) only [push_cast, Nat.reduceBEq, Nat.reduceAdd, Nat.reduceEqDiff, reduceCtorEq, Nat.reduceLeDiff, Nat.reduceSub, Nat.reduceMul, Nat.reduceLT, Int.reduceEq, Int.reduceLT, Int.reduceLE, Int.reduceBEq, Int.reduceBNe, Int.reduceToNat, Int.reduceNeg, Int.reduceSub, Int.reduceAdd, hg9, hq2, hq3, bytesOf_byL, strOf_byL, bytesOf_nil, strOf_nil, z8, z9, str_refl]
        · have hg9 : H9 g = some (.row false 5 (byL r)) := (hk9 g (by omega)).trans hg8
          cases gm'
          · simp (maxSteps := 400000) only [push_cast, Nat.reduceBEq, Nat.reduceAdd, Nat.reduceEqDiff, reduceCtorEq, Nat.reduceLeDiff, Nat.reduceSub, Nat.reduceMul, Nat.reduceLT, Int.reduceEq, Int.reduceLT, Int.reduceLE, Int.reduceBEq, Int.reduceBNe, Int.reduceToNat, Int.reduceNeg, Int.reduceSub, Int.reduceAdd, hg9, hg', hq2, hq3, bytesOf_byL, strOf_byL, hq1]
          · simp (maxSteps := 400000) only [push_cast, Nat.reduceBEq, Nat.reduceAdd, Nat.reduceEqDiff, reduceCtorEq, Nat.reduceLeDiff, Nat.reduceSub, Nat.reduceMul, Nat.reduceLT, Int.reduceEq, Int.reduceLT, Int.reduceLE, Int.reduceBEq, Int.reduceBNe, Int.reduceToNat, Int.reduceNeg, Int.reduceSub, Int.reduceAdd, hg9, hg', hq2, hq3, bytesOf_byL, strOf_byL, hq1]
      · simp (maxSteps := 400000) only [push_cast, Nat.reduceBEq, Nat.reduceAdd, Nat.reduceEqDiff, reduceCtorEq, Nat.reduceLeDiff, Nat.reduceSub, Nat.reduceMul, Nat.reduceLT, Int.reduceEq, Int.reduceLT, Int.reduceLE, Int.reduceBEq, Int.reduceBNe, Int.reduceToNat, Int.reduceNeg, Int.reduceSub, Int.reduceAdd, hsum, f0, f1, f2, f3, f4, f6, f7, hal, hg, byL_take, bytesOf_byL, strOf_byL, hs1, bne_self, str_refl, List.not_mem_nil, false_implies, hpi, hpj, hp]
        replace h6 := h6.same hn7 hk7
        refine callH (crash_c (n := n7 + 1 + 1) (picks := picks) (h6.new3 (by omega) (by omega) (by omega) (by omega)) (Nat.zero_le _) (.inr (.inr ⟨n7 + 1, picks, 0, rfl, by omega, upd_same _ _ _, rfl, by omega⟩))) ?_
        rintro _ H8 n8 ⟨rfl, S8, h8, hn8, k8⟩
        rw [hag] at h8
        have hg8 : H8 g = some (.row true 5 (byL r)) := ((k8 g (by omega) hgS).1).trans ((upd_other (by omega)).trans ((upd_other (by omega)).trans ((upd_other (by omega)).trans hg)))
        simp (maxSteps := 400000) only [push_cast, Nat.reduceBEq, Nat.reduceAdd, Nat.reduceEqDiff, reduceCtorEq, Nat.reduceLeDiff, Nat.reduceSub, Nat.reduceMul, Nat.reduceLT, Int.reduceEq, Int.reduceLT, Int.reduceLE, Int.reduceBEq, Int.reduceBNe, Int.reduceToNat, Int.reduceNeg, Int.reduceSub, Int.reduceAdd]
        refine callH (read_c h8 nA 0 1048576 (by decide)) ?_
        rintro _ H9 n9 h9
        rw [cuts7 ⟨r, r.length⟩ hrl] at h9
        obtain ⟨hn9, hk9, res, rfl, ⟨rfl, hh'⟩ | ⟨g', gm', rfl, hg1', hg2', hg', hgm'⟩⟩ := h9
        · have hh' : r = [] := hh'
          have hg9 : H9 g = some (.row true 5 (byL r)) := (hk9 g (by omega)).trans hg8
          have z8 : (⟨r.toArray⟩ : ByteArray) = ⟨#[]⟩ := by rw [hh']
          have z9 : ((⟨#[]⟩ : ByteArray).toList == (⟨#[]⟩ : ByteArray).toList) = true := beq_self_eq_true _
          simp (maxSteps := 400000) only [push_cast, Nat.reduceBEq, Nat.reduceAdd, Nat.reduceEqDiff, reduceCtorEq, Nat.reduceLeDiff, Nat.reduceSub, Nat.reduceMul, Nat.reduceLT, Int.reduceEq, Int.reduceLT, Int.reduceLE, Int.reduceBEq, Int.reduceBNe, Int.reduceToNat, Int.reduceNeg, Int.reduceSub, Int.reduceAdd, hg9, hq2, hq3, bytesOf_byL, strOf_byL, bytesOf_nil, strOf_nil, z8, z9, str_refl]
        · have hg9 : H9 g = some (.row true 5 (byL r)) := (hk9 g (by omega)).trans hg8
          cases gm'
          · simp (maxSteps := 400000) only [push_cast, Nat.reduceBEq, Nat.reduceAdd, Nat.reduceEqDiff, reduceCtorEq, Nat.reduceLeDiff, Nat.reduceSub, Nat.reduceMul, Nat.reduceLT, Int.reduceEq, Int.reduceLT, Int.reduceLE, Int.reduceBEq, Int.reduceBNe, Int.reduceToNat, Int.reduceNeg, Int.reduceSub, Int.reduceAdd, hg9, hg', hq2, hq3, bytesOf_byL, strOf_byL, hq1]
          · simp (maxSteps := 400000) only [push_cast, Nat.reduceBEq, Nat.reduceAdd, Nat.reduceEqDiff, reduceCtorEq, Nat.reduceLeDiff, Nat.reduceSub, Nat.reduceMul, Nat.reduceLT, Int.reduceEq, Int.reduceLT, Int.reduceLE, Int.reduceBEq, Int.reduceBNe, Int.reduceToNat, Int.reduceNeg, Int.reduceSub, Int.reduceAdd, hg9, hg', hq2, hq3, bytesOf_byL, strOf_byL, hq1]
    · have f7 : (r.length : Int) > (su.size : Int) := by have := hcut.1; omega
      obtain ⟨hc1, hc2⟩ := hcut.2.2.2 (by have := hcut.1; omega)
      obtain rfl : gm = true := by
        rcases hgm with h | h
        · exact h
        · have h : r = [] := h
          rw [h] at hgr f7; have : ([] : List UInt8).length = 0 := rfl; omega
      obtain ⟨r1, hr1⟩ : ∃ r1, r.length = r1 + 1 := ⟨r.length - 1, by omega⟩
      rw [hr1, Nat.add_sub_cancel] at hc1 hc2
      have f8 : IntKind.i64.wrap ((r.length : Int) - 1) = (r1 : Int) := by rw [hr1]; rw [show (((r1 + 1 : Nat) : Int) - 1) = (r1 : Int) by omega]; exact IntWalk.i64_in _ (by omega)
      have f9 : (0 : Int) ≤ (r1 : Int) := by omega
      have f10 : (r1 : Int) ≤ (r.length : Int) := by omega
      have f11 : (r1 : Int) < (r.length : Int) := by omega
      have f12 : ((r1 : Int) - 0).toNat = r1 := by omega
      have f13 : Nat.ble r1 (byL r).length = true := by rw [Nat.ble_eq, byL_len]; omega
      have f14 : (r1 : Int) ≤ (al.size : Int) := by omega
      have f15 : (r1 : Int).toNat = r1 := by omega
      have hald : al.data.toList = su.data.toList ++ mo.data.toList := by rw [← hal, ByteArray.data_append, Array.toList_append]
      have hst : (⟨(r.take r1).toArray⟩ : ByteArray) = al.extract 0 r1 := by
        rw [hc1, ← hald]
        apply ByteArray.ext
        rw [ByteArray.data_extract]
        apply Array.ext'
        simp
      obtain ⟨x, hxr⟩ : ∃ x, r[r1]? = some x := ⟨_, List.getElem?_eq_getElem (by omega)⟩
      obtain ⟨y, hya⟩ : ∃ y, (su.data.toList ++ mo.data.toList)[r1]? = some y := ⟨_, List.getElem?_eq_getElem (by have := hcut.2.1; omega)⟩
      have hix : aindexS al (r1 : Int) = some (.lit (.int .u8 y.toNat)) := by
        unfold aindexS
        rw [if_pos f9, f15, hald, hya]
      have hbx : (byL r)[r1]? = some [.lit (.int .u8 x.toNat)] := by unfold byL; rw [List.getElem?_map, hxr]; rfl
      have hxy := xor85 y
      rw [hxr, hya] at hc2
      obtain ⟨B, hB⟩ : ∃ B, ((x.toNat : Int) != (y.toNat : Int)) = B := ⟨_, rfl⟩
      have hcc : B = false ∨ ((x.toNat : Int) != ((y ^^^ 85).toNat : Int)) = false := by
        rcases hc2 with hc2 | hc2
        · injection hc2 with hc2
          subst hc2
          exact .inl (hB.symm.trans (by simp))
        · have hc2 : some x = some (y ^^^ 85) := hc2
          injection hc2 with hc2
          subst hc2
          exact .inr (by simp)
      rcases hcc with hcc | hcc
      · subst hcc
        simp (maxSteps := 400000) only [push_cast, Nat.reduceBEq, Nat.reduceAdd, Nat.reduceEqDiff, reduceCtorEq, Nat.reduceLeDiff, Nat.reduceSub, Nat.reduceMul, Nat.reduceLT, Int.reduceEq, Int.reduceLT, Int.reduceLE, Int.reduceBEq, Int.reduceBNe, Int.reduceToNat, Int.reduceNeg, Int.reduceSub, Int.reduceAdd, hB, hsum, f0, f1, f2, f3, f4, f6, f7, f8, f9, f10, f11, f12, f13, f14, f15, hal, hg, hst, hix, hbx, hxy, byL_take, bytesOf_byL, strOf_byL, hs1, bne_self, str_refl, List.not_mem_nil, false_implies, hpi, hpj, hp]
        replace h6 := h6.same hn7 hk7
        refine callH (crash_c (n := n7 + 1 + 1) (picks := picks) (h6.new3 (by omega) (by omega) (by omega) (by omega)) (Nat.zero_le _) (.inr (.inr ⟨n7 + 1, picks, 0, rfl, by omega, upd_same _ _ _, rfl, by omega⟩))) ?_
        rintro _ H8 n8 ⟨rfl, S8, h8, hn8, k8⟩
        rw [hag] at h8
        have hg8 : H8 g = some (.row true 5 (byL r)) := ((k8 g (by omega) hgS).1).trans ((upd_other (by omega)).trans ((upd_other (by omega)).trans ((upd_other (by omega)).trans hg)))
        simp (maxSteps := 400000) only [push_cast, Nat.reduceBEq, Nat.reduceAdd, Nat.reduceEqDiff, reduceCtorEq, Nat.reduceLeDiff, Nat.reduceSub, Nat.reduceMul, Nat.reduceLT, Int.reduceEq, Int.reduceLT, Int.reduceLE, Int.reduceBEq, Int.reduceBNe, Int.reduceToNat, Int.reduceNeg, Int.reduceSub, Int.reduceAdd]
        refine callH (read_c h8 nA 0 1048576 (by decide)) ?_
        rintro _ H9 n9 h9
        rw [cuts7 ⟨r, r.length⟩ hrl] at h9
        obtain ⟨hn9, hk9, res, rfl, ⟨rfl, hh'⟩ | ⟨g', gm', rfl, hg1', hg2', hg', hgm'⟩⟩ := h9
        · have hh' : r = [] := hh'
          have hg9 : H9 g = some (.row true 5 (byL r)) := (hk9 g (by omega)).trans hg8
          have z8 : (⟨r.toArray⟩ : ByteArray) = ⟨#[]⟩ := by rw [hh']
          have z9 : ((⟨#[]⟩ : ByteArray).toList == (⟨#[]⟩ : ByteArray).toList) = true := beq_self_eq_true _
          simp (maxSteps := 400000) only [push_cast, Nat.reduceBEq, Nat.reduceAdd, Nat.reduceEqDiff, reduceCtorEq, Nat.reduceLeDiff, Nat.reduceSub, Nat.reduceMul, Nat.reduceLT, Int.reduceEq, Int.reduceLT, Int.reduceLE, Int.reduceBEq, Int.reduceBNe, Int.reduceToNat, Int.reduceNeg, Int.reduceSub, Int.reduceAdd, hg9, hq2, hq3, bytesOf_byL, strOf_byL, bytesOf_nil, strOf_nil, z8, z9, str_refl]
        · have hg9 : H9 g = some (.row true 5 (byL r)) := (hk9 g (by omega)).trans hg8
          cases gm'
          · simp (maxSteps := 400000) only [push_cast, Nat.reduceBEq, Nat.reduceAdd, Nat.reduceEqDiff, reduceCtorEq, Nat.reduceLeDiff, Nat.reduceSub, Nat.reduceMul, Nat.reduceLT, Int.reduceEq, Int.reduceLT, Int.reduceLE, Int.reduceBEq, Int.reduceBNe, Int.reduceToNat, Int.reduceNeg, Int.reduceSub, Int.reduceAdd, hg9, hg', hq2, hq3, bytesOf_byL, strOf_byL, hq1]
          · simp (maxSteps := 400000) only [push_cast, Nat.reduceBEq, Nat.reduceAdd, Nat.reduceEqDiff, reduceCtorEq, Nat.reduceLeDiff, Nat.reduceSub, Nat.reduceMul, Nat.reduceLT, Int.reduceEq, Int.reduceLT, Int.reduceLE, Int.reduceBEq, Int.reduceBNe, Int.reduceToNat, Int.reduceNeg, Int.reduceSub, Int.reduceAdd, hg9, hg', hq2, hq3, bytesOf_byL, strOf_byL, hq1]
      · cases B
        · simp (maxSteps := 400000) only [push_cast, Nat.reduceBEq, Nat.reduceAdd, Nat.reduceEqDiff, reduceCtorEq, Nat.reduceLeDiff, Nat.reduceSub, Nat.reduceMul, Nat.reduceLT, Int.reduceEq, Int.reduceLT, Int.reduceLE, Int.reduceBEq, Int.reduceBNe, Int.reduceToNat, Int.reduceNeg, Int.reduceSub, Int.reduceAdd, hB, hsum, f0, f1, f2, f3, f4, f6, f7, f8, f9, f10, f11, f12, f13, f14, f15, hal, hg, hst, hix, hbx, hxy, byL_take, bytesOf_byL, strOf_byL, hs1, bne_self, str_refl, List.not_mem_nil, false_implies, hpi, hpj, hp]
          replace h6 := h6.same hn7 hk7
          refine callH (crash_c (n := n7 + 1 + 1) (picks := picks) (h6.new3 (by omega) (by omega) (by omega) (by omega)) (Nat.zero_le _) (.inr (.inr ⟨n7 + 1, picks, 0, rfl, by omega, upd_same _ _ _, rfl, by omega⟩))) ?_
          rintro _ H8 n8 ⟨rfl, S8, h8, hn8, k8⟩
          rw [hag] at h8
          have hg8 : H8 g = some (.row true 5 (byL r)) := ((k8 g (by omega) hgS).1).trans ((upd_other (by omega)).trans ((upd_other (by omega)).trans ((upd_other (by omega)).trans hg)))
          simp (maxSteps := 400000) only [push_cast, Nat.reduceBEq, Nat.reduceAdd, Nat.reduceEqDiff, reduceCtorEq, Nat.reduceLeDiff, Nat.reduceSub, Nat.reduceMul, Nat.reduceLT, Int.reduceEq, Int.reduceLT, Int.reduceLE, Int.reduceBEq, Int.reduceBNe, Int.reduceToNat, Int.reduceNeg, Int.reduceSub, Int.reduceAdd]
          refine callH (read_c h8 nA 0 1048576 (by decide)) ?_
          rintro _ H9 n9 h9
          rw [cuts7 ⟨r, r.length⟩ hrl] at h9
          obtain ⟨hn9, hk9, res, rfl, ⟨rfl, hh'⟩ | ⟨g', gm', rfl, hg1', hg2', hg', hgm'⟩⟩ := h9
          · have hh' : r = [] := hh'
            have hg9 : H9 g = some (.row true 5 (byL r)) := (hk9 g (by omega)).trans hg8
            have z8 : (⟨r.toArray⟩ : ByteArray) = ⟨#[]⟩ := by rw [hh']
            have z9 : ((⟨#[]⟩ : ByteArray).toList == (⟨#[]⟩ : ByteArray).toList) = true := beq_self_eq_true _
            simp (maxSteps := 400000) only [push_cast, Nat.reduceBEq, Nat.reduceAdd, Nat.reduceEqDiff, reduceCtorEq, Nat.reduceLeDiff, Nat.reduceSub, Nat.reduceMul, Nat.reduceLT, Int.reduceEq, Int.reduceLT, Int.reduceLE, Int.reduceBEq, Int.reduceBNe, Int.reduceToNat, Int.reduceNeg, Int.reduceSub, Int.reduceAdd, hg9, hq2, hq3, bytesOf_byL, strOf_byL, bytesOf_nil, strOf_nil, z8, z9, str_refl]
          · have hg9 : H9 g = some (.row true 5 (byL r)) := (hk9 g (by omega)).trans hg8
            cases gm'
            · simp (maxSteps := 400000) only [push_cast, Nat.reduceBEq, Nat.reduceAdd, Nat.reduceEqDiff, reduceCtorEq, Nat.reduceLeDiff, Nat.reduceSub, Nat.reduceMul, Nat.reduceLT, Int.reduceEq, Int.reduceLT, Int.reduceLE, Int.reduceBEq, Int.reduceBNe, Int.reduceToNat, Int.reduceNeg, Int.reduceSub, Int.reduceAdd, hg9, hg', hq2, hq3, bytesOf_byL, strOf_byL, hq1]
            · simp (maxSteps := 400000) only [push_cast, Nat.reduceBEq, Nat.reduceAdd, Nat.reduceEqDiff, reduceCtorEq, Nat.reduceLeDiff, Nat.reduceSub, Nat.reduceMul, Nat.reduceLT, Int.reduceEq, Int.reduceLT, Int.reduceLE, Int.reduceBEq, Int.reduceBNe, Int.reduceToNat, Int.reduceNeg, Int.reduceSub, Int.reduceAdd, hg9, hg', hq2, hq3, bytesOf_byL, strOf_byL, hq1]
        · simp (maxSteps := 400000) only [push_cast, Nat.reduceBEq, Nat.reduceAdd, Nat.reduceEqDiff, reduceCtorEq, Nat.reduceLeDiff, Nat.reduceSub, Nat.reduceMul, Nat.reduceLT, Int.reduceEq, Int.reduceLT, Int.reduceLE, Int.reduceBEq, Int.reduceBNe, Int.reduceToNat, Int.reduceNeg, Int.reduceSub, Int.reduceAdd, hB, hcc, hsum, f0, f1, f2, f3, f4, f6, f7, f8, f9, f10, f11, f12, f13, f14, f15, hal, hg, hst, hix, hbx, hxy, byL_take, bytesOf_byL, strOf_byL, hs1, bne_self, str_refl, List.not_mem_nil, false_implies, hpi, hpj, hp]
          replace h6 := h6.same hn7 hk7
          refine callH (crash_c (n := n7 + 1 + 1) (picks := picks) (h6.new3 (by omega) (by omega) (by omega) (by omega)) (Nat.zero_le _) (.inr (.inr ⟨n7 + 1, picks, 0, rfl, by omega, upd_same _ _ _, rfl, by omega⟩))) ?_
          rintro _ H8 n8 ⟨rfl, S8, h8, hn8, k8⟩
          rw [hag] at h8
          have hg8 : H8 g = some (.row true 5 (byL r)) := ((k8 g (by omega) hgS).1).trans ((upd_other (by omega)).trans ((upd_other (by omega)).trans ((upd_other (by omega)).trans hg)))
          simp (maxSteps := 400000) only [push_cast, Nat.reduceBEq, Nat.reduceAdd, Nat.reduceEqDiff, reduceCtorEq, Nat.reduceLeDiff, Nat.reduceSub, Nat.reduceMul, Nat.reduceLT, Int.reduceEq, Int.reduceLT, Int.reduceLE, Int.reduceBEq, Int.reduceBNe, Int.reduceToNat, Int.reduceNeg, Int.reduceSub, Int.reduceAdd]
          refine callH (read_c h8 nA 0 1048576 (by decide)) ?_
          rintro _ H9 n9 h9
          rw [cuts7 ⟨r, r.length⟩ hrl] at h9
          obtain ⟨hn9, hk9, res, rfl, ⟨rfl, hh'⟩ | ⟨g', gm', rfl, hg1', hg2', hg', hgm'⟩⟩ := h9
          · have hh' : r = [] := hh'
            have hg9 : H9 g = some (.row true 5 (byL r)) := (hk9 g (by omega)).trans hg8
            have z8 : (⟨r.toArray⟩ : ByteArray) = ⟨#[]⟩ := by rw [hh']
            have z9 : ((⟨#[]⟩ : ByteArray).toList == (⟨#[]⟩ : ByteArray).toList) = true := beq_self_eq_true _
            simp (maxSteps := 400000) only [push_cast, Nat.reduceBEq, Nat.reduceAdd, Nat.reduceEqDiff, reduceCtorEq, Nat.reduceLeDiff, Nat.reduceSub, Nat.reduceMul, Nat.reduceLT, Int.reduceEq, Int.reduceLT, Int.reduceLE, Int.reduceBEq, Int.reduceBNe, Int.reduceToNat, Int.reduceNeg, Int.reduceSub, Int.reduceAdd, hg9, hq2, hq3, bytesOf_byL, strOf_byL, bytesOf_nil, strOf_nil, z8, z9, str_refl]
          · have hg9 : H9 g = some (.row true 5 (byL r)) := (hk9 g (by omega)).trans hg8
            cases gm'
            · simp (maxSteps := 400000) only [push_cast, Nat.reduceBEq, Nat.reduceAdd, Nat.reduceEqDiff, reduceCtorEq, Nat.reduceLeDiff, Nat.reduceSub, Nat.reduceMul, Nat.reduceLT, Int.reduceEq, Int.reduceLT, Int.reduceLE, Int.reduceBEq, Int.reduceBNe, Int.reduceToNat, Int.reduceNeg, Int.reduceSub, Int.reduceAdd, hg9, hg', hq2, hq3, bytesOf_byL, strOf_byL, hq1]
            · simp (maxSteps := 400000) only [push_cast, Nat.reduceBEq, Nat.reduceAdd, Nat.reduceEqDiff, reduceCtorEq, Nat.reduceLeDiff, Nat.reduceSub, Nat.reduceMul, Nat.reduceLT, Int.reduceEq, Int.reduceLT, Int.reduceLE, Int.reduceBEq, Int.reduceBNe, Int.reduceToNat, Int.reduceNeg, Int.reduceSub, Int.reduceAdd, hg9, hg', hq2, hq3, bytesOf_byL, strOf_byL, hq1]
end Go.Proofs.YtjmafbdakalknaaDoor
