/- Chapter 7's statement FsRoom, by the walk over a heap. -/
import Derived.Test.YtjmafbdakalknaaDoorFsRoomP
set_option linter.unusedVariables false
set_option linter.unusedSimpArgs false
namespace Go.Proofs.YtjmafbdakalknaaDoor
open Go Go.RowKit Hv
set_option maxRecDepth 20000
set_option maxHeartbeats 8000000
theorem zeros_byL (n : Nat) : List.replicate n [AV.lit (.int .u8 0)] = byL (List.replicate n 0) := by
  unfold byL
  rw [List.map_replicate]; rfl
theorem FsRoom_h (r0 : Int) (sizes : List Int) : Hv.ACalls Tryd.prog 5 [.lit (.int .i64 r0), .sl (sizes.map intI)] (.lit (.bool true)) := by
  refine acallsC_of (rs := [.tmp 4]) ⟨[0, 1, 4, 5, 6, 7, 8, 9, 10, 11, 12, 14, 35, 43, 55, 78, 84, 89, 98, 101, 109], [], [], []⟩ TOk mixed Tryd.func5 rfl rfl (by kernel_rfl) (by kernel_rfl) rfl (by simp [noId_ints, noId_lit]) (.lit _) ?_
  simp only [push_cast, Nat.reduceBEq, Nat.reduceAdd, Nat.reduceEqDiff, reduceCtorEq, Nat.reduceLeDiff, Nat.reduceSub, Nat.reduceMul, Nat.reduceLT, Int.reduceEq, Int.reduceLT, Int.reduceLE, Int.reduceBEq, Int.reduceBNe, Int.reduceToNat, Int.reduceNeg, Int.reduceSub, Int.reduceAdd]
  refine callH files_c ?_
  rintro _ Ha na ⟨rfl, hna, ka⟩
  obtain ⟨room, hrm, hm1, hm2⟩ := u64_mod r0 (K := 3000) (by decide) (by decide)
  have hm1 : (IntKind.u64.wrap r0).tmod 3000 = (room : Int) := hm1
  simp only [push_cast, Nat.reduceBEq, Nat.reduceAdd, Nat.reduceEqDiff, reduceCtorEq, Nat.reduceLeDiff, Nat.reduceSub, Nat.reduceMul, Nat.reduceLT, Int.reduceEq, Int.reduceLT, Int.reduceLE, Int.reduceBEq, Int.reduceBNe, Int.reduceToNat, Int.reduceNeg, Int.reduceSub, Int.reduceAdd, hm1, hm2]
  refine callH (new_c (by omega)) ?_
  rintro _ H0 n1 ⟨rfl, S0, h0, hn0, k0⟩
  obtain ⟨st1, st2, st3, st4, st5⟩ := room_start (room := room)
  simp only [push_cast, Nat.reduceBEq, Nat.reduceAdd, Nat.reduceEqDiff, reduceCtorEq, Nat.reduceLeDiff, Nat.reduceSub, Nat.reduceMul, Nat.reduceLT, Int.reduceEq, Int.reduceLT, Int.reduceLE, Int.reduceBEq, Int.reduceBNe, Int.reduceToNat, Int.reduceNeg, Int.reduceSub, Int.reduceAdd]
  refine callH (create_c h0 (Nat.zero_le _) nA) ?_
  rintro _ H1 n2 ⟨rfl, S1, h1, hn1, k1⟩
  simp only [push_cast, Nat.reduceBEq, Nat.reduceAdd, Nat.reduceEqDiff, reduceCtorEq, Nat.reduceLeDiff, Nat.reduceSub, Nat.reduceMul, Nat.reduceLT, Int.reduceEq, Int.reduceLT, Int.reduceLE, Int.reduceBEq, Int.reduceBNe, Int.reduceToNat, Int.reduceNeg, Int.reduceSub, Int.reduceAdd, st1]
  refine callH (create_c h1 (by rw [st4]; decide) nB) ?_
  rintro _ H2 n3 ⟨rfl, S2, h2, hn2, k2⟩
  simp only [push_cast, Nat.reduceBEq, Nat.reduceAdd, Nat.reduceEqDiff, reduceCtorEq, Nat.reduceLeDiff, Nat.reduceSub, Nat.reduceMul, Nat.reduceLT, Int.reduceEq, Int.reduceLT, Int.reduceLE, Int.reduceBEq, Int.reduceBNe, Int.reduceToNat, Int.reduceNeg, Int.reduceSub, Int.reduceAdd, st2]
  refine loopK (fun q s => ∃ (k a b : Nat) (d : FsD) (H : Hp) (nn : Nat) (S : Nat → Prop), s = ⟨[(0, .lit (.int .i64 (room : Int))), (1, .sl (sizes.map intI)), (5, .ptr (na + 2) 0), (7, .lit (.int .i64 (a : Int))), (8, .lit (.int .i64 (b : Int))), (9, .lit (.int .i64 (k : Int)))], H, nn⟩ ∧ k ≤ sizes.length ∧ k ≤ 50 ∧ q = sizes.length - k ∧ FsS H nn S (na + 2) d ∧ RoomI room a b d ∧ a + b ≤ room ∧ d.wait.length ≤ 2 + 2 * k) _ [0, 1, 5, 7, 8, 9] ⟨0, 0, 0, _, H2, n3, S2, rfl, Nat.zero_le _, Nat.zero_le _, rfl, h2, st3, Nat.zero_le _, by rw [st5]; exact Nat.le_refl _⟩ ?_
  clear h2 k2 hn2 h1 k1 h0 k0 st3 st4 st5 st1 st2
  rintro q _ ⟨k, a, b, d, H, nn, S, rfl, hkl, hk50, rfl, h, hI, hab, hw2⟩
  have eqAA : ((⟨#[97]⟩ : ByteArray).toList == (⟨#[97]⟩ : ByteArray).toList) = true := by kernel_rfl
  have eqBA : ((⟨#[98]⟩ : ByteArray).toList == (⟨#[97]⟩ : ByteArray).toList) = false := by kernel_rfl
  have EXIT : True := trivial
  by_cases hk : k < sizes.length
  · by_cases hk' : (k : Int) < 50
    · obtain ⟨x, hx⟩ : ∃ x, sizes[k]? = some x := ⟨_, List.getElem?_eq_getElem hk⟩
      obtain ⟨n, hn, hc1, hc2⟩ := u64_mod x (K := 900) (by decide) (by decide)
      have hc1 : (IntKind.u64.wrap x).tmod 900 = (n : Int) := hc1
      have hn0 : (0 : Int) ≤ (n : Int) := by omega
      have hnn : (n : Int).toNat = n := by omega
      have hnb : 1 * (n : Int) ≤ 140737488355328 := by omega
      have hw := wrap_nat0 (k := k) (by omega)
      have s1 : IntKind.i64.wrap ((a : Int) + (b : Int)) = ((a + b : Nat) : Int) := by rw [← Int.natCast_add]; exact IntWalk.i64_in _ (by omega)
      have s2 : IntKind.i64.wrap (((a + b : Nat) : Int) + (n : Int)) = ((a + b + n : Nat) : Int) := by rw [← Int.natCast_add]; exact IntWalk.i64_in _ (by omega)
      obtain ⟨ab, hab'⟩ : ∃ ab, a + b = ab := ⟨_, rfl⟩
      obtain ⟨abn, habn⟩ : ∃ abn, ab + n = abn := ⟨_, rfl⟩
      rw [hab'] at s1 s2
      rw [habn] at s2
      have m2 : ((k % 2 : Nat) : Int) = (k : Int).tmod 2 := Int.ofNat_tmod k 2
      have m9 : ((k % 9 : Nat) : Int) = (k : Int).tmod 9 := Int.ofNat_tmod k 9
      by_cases hp : k % 2 = 1
      · skip
        have t2 : (k : Int).tmod 2 = 1 := by rw [hp] at m2; exact m2.symm
        have ap := hI.appendB (l := List.replicate n 0) (by omega) (by omega) List.length_replicate
        obtain ⟨mn, hmn⟩ : ∃ mn, b + n = mn := ⟨_, rfl⟩
        have s3 : IntKind.i64.wrap ((b : Int) + (n : Int)) = (mn : Int) := by rw [← Int.natCast_add, hmn]; exact IntWalk.i64_in _ (by omega)
        simp only [push_cast, Nat.reduceBEq, Nat.reduceAdd, Nat.reduceEqDiff, reduceCtorEq, Nat.reduceLeDiff, Nat.reduceSub, Nat.reduceMul, Nat.reduceLT, Int.reduceEq, Int.reduceLT, Int.reduceLE, Int.reduceBEq, Int.reduceBNe, Int.reduceToNat, Int.reduceNeg, Int.reduceSub, Int.reduceAdd, hk, hk', hx, hc1, hc2, t2, intI, hn0, hnn, hnb]
        refine callH (append_c (h.new (Nat.le_refl _) (Nat.le_succ _)) nB (b := List.replicate n 0) (.inl ⟨nn, _, by rw [List.length_replicate], Nat.lt_succ_self _, h.nu (Nat.le_refl _), by rw [← zeros_byL]; exact upd_same _ _ _⟩) (by rw [List.length_replicate]; omega)) ?_
        rintro _ H3 n3 ⟨rfl, S3, h3, hn3, k3⟩
        by_cases hle : a + b + n ≤ room
        · obtain ⟨he, hI3, hw3⟩ := ap.1 hle
          rw [hmn] at hI3
          obtain ⟨d3, hd3⟩ : ∃ d3, (d.append nB (List.replicate n 0)).1 = d3 := ⟨_, rfl⟩
          rw [hd3] at h3 hI3 hw3
          have hw4 : d3.wait.length = d.wait.length := by rw [hw3]
          have hle' : (abn : Int) ≤ (room : Int) := by omega
          have hu := hI3.used
          obtain ⟨us, hus⟩ : ∃ us, a + mn = us := ⟨_, rfl⟩
          rw [hus] at hu
          have s4 : IntKind.i64.wrap ((a : Int) + (mn : Int)) = (us : Int) := by rw [← Int.natCast_add, hus]; exact IntWalk.i64_in _ (by omega)
          have hne : ((us : Int) != (us : Int)) = false := by simp
          simp only [push_cast, Nat.reduceBEq, Nat.reduceAdd, Nat.reduceEqDiff, reduceCtorEq, Nat.reduceLeDiff, Nat.reduceSub, Nat.reduceMul, Nat.reduceLT, Int.reduceEq, Int.reduceLT, Int.reduceLE, Int.reduceBEq, Int.reduceBNe, Int.reduceToNat, Int.reduceNeg, Int.reduceSub, Int.reduceAdd, he, s1, s2, hle', eqAA, eqBA, s3]
          refine callH (used_c h3) ?_
          rintro _ H4 n4 ⟨rfl, hn4, k4⟩
          have h4 := h3.same hn4 k4
          by_cases h9 : k % 9 = 8
          · have t9 : (k : Int).tmod 9 = 8 := by rw [h9] at m9; exact m9.symm
            obtain ⟨u1, u2, u3, u4, u5⟩ := hI3.turn
            simp only [push_cast, Nat.reduceBEq, Nat.reduceAdd, Nat.reduceEqDiff, reduceCtorEq, Nat.reduceLeDiff, Nat.reduceSub, Nat.reduceMul, Nat.reduceLT, Int.reduceEq, Int.reduceLT, Int.reduceLE, Int.reduceBEq, Int.reduceBNe, Int.reduceToNat, Int.reduceNeg, Int.reduceSub, Int.reduceAdd, hu, s4, hne, t9]
            refine callH (rename_c h4 (by omega) nB nA) ?_
            rintro _ H5 n5 ⟨rfl, S5, h5, hn5, k5⟩
            simp only [push_cast, Nat.reduceBEq, Nat.reduceAdd, Nat.reduceEqDiff, reduceCtorEq, Nat.reduceLeDiff, Nat.reduceSub, Nat.reduceMul, Nat.reduceLT, Int.reduceEq, Int.reduceLT, Int.reduceLE, Int.reduceBEq, Int.reduceBNe, Int.reduceToNat, Int.reduceNeg, Int.reduceSub, Int.reduceAdd, u1]
            refine callH (create_c h5 (by omega) nB) ?_
            rintro _ H6 n6 ⟨rfl, S6, h6, hn6, k6⟩
            simp only [push_cast, Nat.reduceBEq, Nat.reduceAdd, Nat.reduceEqDiff, reduceCtorEq, Nat.reduceLeDiff, Nat.reduceSub, Nat.reduceMul, Nat.reduceLT, Int.reduceEq, Int.reduceLT, Int.reduceLE, Int.reduceBEq, Int.reduceBNe, Int.reduceToNat, Int.reduceNeg, Int.reduceSub, Int.reduceAdd, u2, hw]
            exact ⟨_, by omega, k + 1, mn, 0, _, _, _, S6, rfl, by omega, by omega, rfl, h6, u3, by omega, by rw [u5]; omega⟩
          · have t9 : ((k : Int).tmod 9 == 8) = false := by rw [← m9, beq_eq_false_iff_ne]; omega
            simp only [push_cast, Nat.reduceBEq, Nat.reduceAdd, Nat.reduceEqDiff, reduceCtorEq, Nat.reduceLeDiff, Nat.reduceSub, Nat.reduceMul, Nat.reduceLT, Int.reduceEq, Int.reduceLT, Int.reduceLE, Int.reduceBEq, Int.reduceBNe, Int.reduceToNat, Int.reduceNeg, Int.reduceSub, Int.reduceAdd, hu, s4, hne, t9, hw]
            exact ⟨_, by omega, k + 1, a, mn, _, _, _, _, rfl, by omega, by omega, rfl, h4, hI3, by omega, by omega⟩
        · have he := ap.2 hle
          have hle' : ¬ (abn : Int) ≤ (room : Int) := by omega
          rw [he] at h3
          have h3 : FsS H3 n3 S3 (na + 2) d := h3
          have hu := hI.used
          have hne : ((ab : Int) != (ab : Int)) = false := by simp
          rw [hab'] at hu
          simp only [push_cast, Nat.reduceBEq, Nat.reduceAdd, Nat.reduceEqDiff, reduceCtorEq, Nat.reduceLeDiff, Nat.reduceSub, Nat.reduceMul, Nat.reduceLT, Int.reduceEq, Int.reduceLT, Int.reduceLE, Int.reduceBEq, Int.reduceBNe, Int.reduceToNat, Int.reduceNeg, Int.reduceSub, Int.reduceAdd, he, s1, s2, hle', eqAA, eqBA, s3]
          refine callH (used_c h3) ?_
          rintro _ H4 n4 ⟨rfl, hn4, k4⟩
          have h4 := h3.same hn4 k4
          by_cases h9 : k % 9 = 8
          · have t9 : (k : Int).tmod 9 = 8 := by rw [h9] at m9; exact m9.symm
            obtain ⟨u1, u2, u3, u4, u5⟩ := hI.turn
            simp only [push_cast, Nat.reduceBEq, Nat.reduceAdd, Nat.reduceEqDiff, reduceCtorEq, Nat.reduceLeDiff, Nat.reduceSub, Nat.reduceMul, Nat.reduceLT, Int.reduceEq, Int.reduceLT, Int.reduceLE, Int.reduceBEq, Int.reduceBNe, Int.reduceToNat, Int.reduceNeg, Int.reduceSub, Int.reduceAdd, hu, s1, hne, t9]
            refine callH (rename_c h4 (by omega) nB nA) ?_
            rintro _ H5 n5 ⟨rfl, S5, h5, hn5, k5⟩
            simp only [push_cast, Nat.reduceBEq, Nat.reduceAdd, Nat.reduceEqDiff, reduceCtorEq, Nat.reduceLeDiff, Nat.reduceSub, Nat.reduceMul, Nat.reduceLT, Int.reduceEq, Int.reduceLT, Int.reduceLE, Int.reduceBEq, Int.reduceBNe, Int.reduceToNat, Int.reduceNeg, Int.reduceSub, Int.reduceAdd, u1]
            refine callH (create_c h5 (by omega) nB) ?_
            rintro _ H6 n6 ⟨rfl, S6, h6, hn6, k6⟩
            simp only [push_cast, Nat.reduceBEq, Nat.reduceAdd, Nat.reduceEqDiff, reduceCtorEq, Nat.reduceLeDiff, Nat.reduceSub, Nat.reduceMul, Nat.reduceLT, Int.reduceEq, Int.reduceLT, Int.reduceLE, Int.reduceBEq, Int.reduceBNe, Int.reduceToNat, Int.reduceNeg, Int.reduceSub, Int.reduceAdd, u2, hw]
            exact ⟨_, by omega, k + 1, b, 0, _, _, _, S6, rfl, by omega, by omega, rfl, h6, u3, by omega, by rw [u5]; omega⟩
          · have t9 : ((k : Int).tmod 9 == 8) = false := by rw [← m9, beq_eq_false_iff_ne]; omega
            simp only [push_cast, Nat.reduceBEq, Nat.reduceAdd, Nat.reduceEqDiff, reduceCtorEq, Nat.reduceLeDiff, Nat.reduceSub, Nat.reduceMul, Nat.reduceLT, Int.reduceEq, Int.reduceLT, Int.reduceLE, Int.reduceBEq, Int.reduceBNe, Int.reduceToNat, Int.reduceNeg, Int.reduceSub, Int.reduceAdd, hu, s1, hne, t9, hw]
            exact ⟨_, by omega, k + 1, a, b, _, _, _, _, rfl, by omega, by omega, rfl, h4, hI, by omega, by omega⟩
      · have hp : k % 2 = 0 := by omega
        have t2 : (k : Int).tmod 2 = 0 := by rw [hp] at m2; exact m2.symm
        have ap := hI.appendA (l := List.replicate n 0) (by omega) (by omega) List.length_replicate
        obtain ⟨mn, hmn⟩ : ∃ mn, a + n = mn := ⟨_, rfl⟩
        have s3 : IntKind.i64.wrap ((a : Int) + (n : Int)) = (mn : Int) := by rw [← Int.natCast_add, hmn]; exact IntWalk.i64_in _ (by omega)
        simp only [push_cast, Nat.reduceBEq, Nat.reduceAdd, Nat.reduceEqDiff, reduceCtorEq, Nat.reduceLeDiff, Nat.reduceSub, Nat.reduceMul, Nat.reduceLT, Int.reduceEq, Int.reduceLT, Int.reduceLE, Int.reduceBEq, Int.reduceBNe, Int.reduceToNat, Int.reduceNeg, Int.reduceSub, Int.reduceAdd, hk, hk', hx, hc1, hc2, t2, intI, hn0, hnn, hnb]
        refine callH (append_c (h.new (Nat.le_refl _) (Nat.le_succ _)) nA (b := List.replicate n 0) (.inl ⟨nn, _, by rw [List.length_replicate], Nat.lt_succ_self _, h.nu (Nat.le_refl _), by rw [← zeros_byL]; exact upd_same _ _ _⟩) (by rw [List.length_replicate]; omega)) ?_
        rintro _ H3 n3 ⟨rfl, S3, h3, hn3, k3⟩
        by_cases hle : a + b + n ≤ room
        · obtain ⟨he, hI3, hw3⟩ := ap.1 hle
          rw [hmn] at hI3
          obtain ⟨d3, hd3⟩ : ∃ d3, (d.append nA (List.replicate n 0)).1 = d3 := ⟨_, rfl⟩
          rw [hd3] at h3 hI3 hw3
          have hw4 : d3.wait.length = d.wait.length := by rw [hw3]
          have hle' : (abn : Int) ≤ (room : Int) := by omega
          have hu := hI3.used
          obtain ⟨us, hus⟩ : ∃ us, mn + b = us := ⟨_, rfl⟩
          rw [hus] at hu
          have s4 : IntKind.i64.wrap ((mn : Int) + (b : Int)) = (us : Int) := by rw [← Int.natCast_add, hus]; exact IntWalk.i64_in _ (by omega)
          have hne : ((us : Int) != (us : Int)) = false := by simp
          simp only [push_cast, Nat.reduceBEq, Nat.reduceAdd, Nat.reduceEqDiff, reduceCtorEq, Nat.reduceLeDiff, Nat.reduceSub, Nat.reduceMul, Nat.reduceLT, Int.reduceEq, Int.reduceLT, Int.reduceLE, Int.reduceBEq, Int.reduceBNe, Int.reduceToNat, Int.reduceNeg, Int.reduceSub, Int.reduceAdd, he, s1, s2, hle', eqAA, eqBA, s3]
          refine callH (used_c h3) ?_
          rintro _ H4 n4 ⟨rfl, hn4, k4⟩
          have h4 := h3.same hn4 k4
          by_cases h9 : k % 9 = 8
          · have t9 : (k : Int).tmod 9 = 8 := by rw [h9] at m9; exact m9.symm
            obtain ⟨u1, u2, u3, u4, u5⟩ := hI3.turn
            simp only [push_cast, Nat.reduceBEq, Nat.reduceAdd, Nat.reduceEqDiff, reduceCtorEq, Nat.reduceLeDiff, Nat.reduceSub, Nat.reduceMul, Nat.reduceLT, Int.reduceEq, Int.reduceLT, Int.reduceLE, Int.reduceBEq, Int.reduceBNe, Int.reduceToNat, Int.reduceNeg, Int.reduceSub, Int.reduceAdd, hu, s4, hne, t9]
            refine callH (rename_c h4 (by omega) nB nA) ?_
            rintro _ H5 n5 ⟨rfl, S5, h5, hn5, k5⟩
            simp only [push_cast, Nat.reduceBEq, Nat.reduceAdd, Nat.reduceEqDiff, reduceCtorEq, Nat.reduceLeDiff, Nat.reduceSub, Nat.reduceMul, Nat.reduceLT, Int.reduceEq, Int.reduceLT, Int.reduceLE, Int.reduceBEq, Int.reduceBNe, Int.reduceToNat, Int.reduceNeg, Int.reduceSub, Int.reduceAdd, u1]
            refine callH (create_c h5 (by omega) nB) ?_
            rintro _ H6 n6 ⟨rfl, S6, h6, hn6, k6⟩
            simp only [push_cast, Nat.reduceBEq, Nat.reduceAdd, Nat.reduceEqDiff, reduceCtorEq, Nat.reduceLeDiff, Nat.reduceSub, Nat.reduceMul, Nat.reduceLT, Int.reduceEq, Int.reduceLT, Int.reduceLE, Int.reduceBEq, Int.reduceBNe, Int.reduceToNat, Int.reduceNeg, Int.reduceSub, Int.reduceAdd, u2, hw]
            exact ⟨_, by omega, k + 1, b, 0, _, _, _, S6, rfl, by omega, by omega, rfl, h6, u3, by omega, by rw [u5]; omega⟩
          · have t9 : ((k : Int).tmod 9 == 8) = false := by rw [← m9, beq_eq_false_iff_ne]; omega
            simp only [push_cast, Nat.reduceBEq, Nat.reduceAdd, Nat.reduceEqDiff, reduceCtorEq, Nat.reduceLeDiff, Nat.reduceSub, Nat.reduceMul, Nat.reduceLT, Int.reduceEq, Int.reduceLT, Int.reduceLE, Int.reduceBEq, Int.reduceBNe, Int.reduceToNat, Int.reduceNeg, Int.reduceSub, Int.reduceAdd, hu, s4, hne, t9, hw]
            exact ⟨_, by omega, k + 1, mn, b, _, _, _, _, rfl, by omega, by omega, rfl, h4, hI3, by omega, by omega⟩
        · have he := ap.2 hle
          have hle' : ¬ (abn : Int) ≤ (room : Int) := by omega
          rw [he] at h3
          have h3 : FsS H3 n3 S3 (na + 2) d := h3
          have hu := hI.used
          have hne : ((ab : Int) != (ab : Int)) = false := by simp
          rw [hab'] at hu
          simp only [push_cast, Nat.reduceBEq, Nat.reduceAdd, Nat.reduceEqDiff, reduceCtorEq, Nat.reduceLeDiff, Nat.reduceSub, Nat.reduceMul, Nat.reduceLT, Int.reduceEq, Int.reduceLT, Int.reduceLE, Int.reduceBEq, Int.reduceBNe, Int.reduceToNat, Int.reduceNeg, Int.reduceSub, Int.reduceAdd, he, s1, s2, hle', eqAA, eqBA, s3]
          refine callH (used_c h3) ?_
          rintro _ H4 n4 ⟨rfl, hn4, k4⟩
          have h4 := h3.same hn4 k4
          by_cases h9 : k % 9 = 8
          · have t9 : (k : Int).tmod 9 = 8 := by rw [h9] at m9; exact m9.symm
            obtain ⟨u1, u2, u3, u4, u5⟩ := hI.turn
            simp only [push_cast, Nat.reduceBEq, Nat.reduceAdd, Nat.reduceEqDiff, reduceCtorEq, Nat.reduceLeDiff, Nat.reduceSub, Nat.reduceMul, Nat.reduceLT, Int.reduceEq, Int.reduceLT, Int.reduceLE, Int.reduceBEq, Int.reduceBNe, Int.reduceToNat, Int.reduceNeg, Int.reduceSub, Int.reduceAdd, hu, s1, hne, t9]
            refine callH (rename_c h4 (by omega) nB nA) ?_
            rintro _ H5 n5 ⟨rfl, S5, h5, hn5, k5⟩
            simp only [push_cast, Nat.reduceBEq, Nat.reduceAdd, Nat.reduceEqDiff, reduceCtorEq, Nat.reduceLeDiff, Nat.reduceSub, Nat.reduceMul, Nat.reduceLT, Int.reduceEq, Int.reduceLT, Int.reduceLE, Int.reduceBEq, Int.reduceBNe, Int.reduceToNat, Int.reduceNeg, Int.reduceSub, Int.reduceAdd, u1]
            refine callH (create_c h5 (by omega) nB) ?_
            rintro _ H6 n6 ⟨rfl, S6, h6, hn6, k6⟩
            simp only [push_cast, Nat.reduceBEq, Nat.reduceAdd, Nat.reduceEqDiff, reduceCtorEq, Nat.reduceLeDiff, Nat.reduceSub, Nat.reduceMul, Nat.reduceLT, Int.reduceEq, Int.reduceLT, Int.reduceLE, Int.reduceBEq, Int.reduceBNe, Int.reduceToNat, Int.reduceNeg, Int.reduceSub, Int.reduceAdd, u2, hw]
            exact ⟨_, by omega, k + 1, b, 0, _, _, _, S6, rfl, by omega, by omega, rfl, h6, u3, by omega, by rw [u5]; omega⟩
          · have t9 : ((k : Int).tmod 9 == 8) = false := by rw [← m9, beq_eq_false_iff_ne]; omega
            simp only [push_cast, Nat.reduceBEq, Nat.reduceAdd, Nat.reduceEqDiff, reduceCtorEq, Nat.reduceLeDiff, Nat.reduceSub, Nat.reduceMul, Nat.reduceLT, Int.reduceEq, Int.reduceLT, Int.reduceLE, Int.reduceBEq, Int.reduceBNe, Int.reduceToNat, Int.reduceNeg, Int.reduceSub, Int.reduceAdd, hu, s1, hne, t9, hw]
            exact ⟨_, by omega, k + 1, a, b, _, _, _, _, rfl, by omega, by omega, rfl, h4, hI, by omega, by omega⟩
    · obtain ⟨g1, g2⟩ := hI.removeA
      obtain ⟨rb, hrb⟩ : ∃ rb, room - b = rb := ⟨_, rfl⟩
      have q1 : IntKind.i64.wrap ((room : Int) - (b : Int)) = (rb : Int) := by rw [← hrb, Int.natCast_sub (by omega)]; exact IntWalk.i64_in _ (by omega)
      have q2 : (0 : Int) ≤ (rb : Int) := by omega
      have q3 : (rb : Int).toNat = rb := by omega
      have q4 : 1 * (rb : Int) ≤ 140737488355328 := by omega
      have hub := g2.used
      have hne : ((b : Int) == (b : Int)) = true := by simp
      have z1 := (g2.appendB (l := List.replicate rb 0) (by omega) (by omega) List.length_replicate).1 (by omega)
      have z2 := (z1.2.appendB (l := [1]) (n := 1) (by omega) (by omega) rfl).2 (by omega)
      simp only [push_cast, Nat.reduceBEq, Nat.reduceAdd, Nat.reduceEqDiff, reduceCtorEq, Nat.reduceLeDiff, Nat.reduceSub, Nat.reduceMul, Nat.reduceLT, Int.reduceEq, Int.reduceLT, Int.reduceLE, Int.reduceBEq, Int.reduceBNe, Int.reduceToNat, Int.reduceNeg, Int.reduceSub, Int.reduceAdd, hk, hk']
      refine callH (remove_c h (by omega) nA) ?_
      rintro _ H5 n5 ⟨rfl, S5, h5, hn5, k5⟩
      simp only [push_cast, Nat.reduceBEq, Nat.reduceAdd, Nat.reduceEqDiff, reduceCtorEq, Nat.reduceLeDiff, Nat.reduceSub, Nat.reduceMul, Nat.reduceLT, Int.reduceEq, Int.reduceLT, Int.reduceLE, Int.reduceBEq, Int.reduceBNe, Int.reduceToNat, Int.reduceNeg, Int.reduceSub, Int.reduceAdd, g1]
      refine callH (used_c h5) ?_
      rintro _ H6 n6 ⟨rfl, hn6, k6⟩
      have h6 := h5.same hn6 k6
      simp only [push_cast, Nat.reduceBEq, Nat.reduceAdd, Nat.reduceEqDiff, reduceCtorEq, Nat.reduceLeDiff, Nat.reduceSub, Nat.reduceMul, Nat.reduceLT, Int.reduceEq, Int.reduceLT, Int.reduceLE, Int.reduceBEq, Int.reduceBNe, Int.reduceToNat, Int.reduceNeg, Int.reduceSub, Int.reduceAdd, hub, hne, q1, q2, q3, q4]
      refine callH (append_c (h6.new (Nat.le_refl _) (Nat.le_succ _)) nB (b := List.replicate rb 0) (.inl ⟨n6, _, by rw [List.length_replicate], Nat.lt_succ_self _, h6.nu (Nat.le_refl _), by rw [← zeros_byL]; exact upd_same _ _ _⟩) (by rw [List.length_replicate]; omega)) ?_
      rintro _ H7 n7 ⟨rfl, S7, h7, hn7, k7⟩
      simp only [push_cast, Nat.reduceBEq, Nat.reduceAdd, Nat.reduceEqDiff, reduceCtorEq, Nat.reduceLeDiff, Nat.reduceSub, Nat.reduceMul, Nat.reduceLT, Int.reduceEq, Int.reduceLT, Int.reduceLE, Int.reduceBEq, Int.reduceBNe, Int.reduceToNat, Int.reduceNeg, Int.reduceSub, Int.reduceAdd, z1.1]
      refine callH (append_c (h7.new (Nat.le_refl _) (Nat.le_succ _)) nB (b := [1]) (.inl ⟨n7, _, rfl, Nat.lt_succ_self _, h7.nu (Nat.le_refl _), upd_same _ _ _⟩) (by decide)) ?_
      rintro _ H8 n8 ⟨rfl, S8, h8, hn8, k8⟩
      simp only [push_cast, Nat.reduceBEq, Nat.reduceAdd, Nat.reduceEqDiff, reduceCtorEq, Nat.reduceLeDiff, Nat.reduceSub, Nat.reduceMul, Nat.reduceLT, Int.reduceEq, Int.reduceLT, Int.reduceLE, Int.reduceBEq, Int.reduceBNe, Int.reduceToNat, Int.reduceNeg, Int.reduceSub, Int.reduceAdd, z2]
  · obtain ⟨g1, g2⟩ := hI.removeA
    obtain ⟨rb, hrb⟩ : ∃ rb, room - b = rb := ⟨_, rfl⟩
    have q1 : IntKind.i64.wrap ((room : Int) - (b : Int)) = (rb : Int) := by rw [← hrb, Int.natCast_sub (by omega)]; exact IntWalk.i64_in _ (by omega)
    have q2 : (0 : Int) ≤ (rb : Int) := by omega
    have q3 : (rb : Int).toNat = rb := by omega
    have q4 : 1 * (rb : Int) ≤ 140737488355328 := by omega
    have hub := g2.used
    have hne : ((b : Int) == (b : Int)) = true := by simp
    have z1 := (g2.appendB (l := List.replicate rb 0) (by omega) (by omega) List.length_replicate).1 (by omega)
    have z2 := (z1.2.appendB (l := [1]) (n := 1) (by omega) (by omega) rfl).2 (by omega)
    simp only [push_cast, Nat.reduceBEq, Nat.reduceAdd, Nat.reduceEqDiff, reduceCtorEq, Nat.reduceLeDiff, Nat.reduceSub, Nat.reduceMul, Nat.reduceLT, Int.reduceEq, Int.reduceLT, Int.reduceLE, Int.reduceBEq, Int.reduceBNe, Int.reduceToNat, Int.reduceNeg, Int.reduceSub, Int.reduceAdd, hk]
    refine callH (remove_c h (by omega) nA) ?_
    rintro _ H5 n5 ⟨rfl, S5, h5, hn5, k5⟩
    simp only [push_cast, Nat.reduceBEq, Nat.reduceAdd, Nat.reduceEqDiff, reduceCtorEq, Nat.reduceLeDiff, Nat.reduceSub, Nat.reduceMul, Nat.reduceLT, Int.reduceEq, Int.reduceLT, Int.reduceLE, Int.reduceBEq, Int.reduceBNe, Int.reduceToNat, Int.reduceNeg, Int.reduceSub, Int.reduceAdd, g1]
    refine callH (used_c h5) ?_
    rintro _ H6 n6 ⟨rfl, hn6, k6⟩
    have h6 := h5.same hn6 k6
    simp only [push_cast, Nat.reduceBEq, Nat.reduceAdd, Nat.reduceEqDiff, reduceCtorEq, Nat.reduceLeDiff, Nat.reduceSub, Nat.reduceMul, Nat.reduceLT, Int.reduceEq, Int.reduceLT, Int.reduceLE, Int.reduceBEq, Int.reduceBNe, Int.reduceToNat, Int.reduceNeg, Int.reduceSub, Int.reduceAdd, hub, hne, q1, q2, q3, q4]
    refine callH (append_c (h6.new (Nat.le_refl _) (Nat.le_succ _)) nB (b := List.replicate rb 0) (.inl ⟨n6, _, by rw [List.length_replicate], Nat.lt_succ_self _, h6.nu (Nat.le_refl _), by rw [← zeros_byL]; exact upd_same _ _ _⟩) (by rw [List.length_replicate]; omega)) ?_
    rintro _ H7 n7 ⟨rfl, S7, h7, hn7, k7⟩
    simp only [push_cast, Nat.reduceBEq, Nat.reduceAdd, Nat.reduceEqDiff, reduceCtorEq, Nat.reduceLeDiff, Nat.reduceSub, Nat.reduceMul, Nat.reduceLT, Int.reduceEq, Int.reduceLT, Int.reduceLE, Int.reduceBEq, Int.reduceBNe, Int.reduceToNat, Int.reduceNeg, Int.reduceSub, Int.reduceAdd, z1.1]
    refine callH (append_c (h7.new (Nat.le_refl _) (Nat.le_succ _)) nB (b := [1]) (.inl ⟨n7, _, rfl, Nat.lt_succ_self _, h7.nu (Nat.le_refl _), upd_same _ _ _⟩) (by decide)) ?_
    rintro _ H8 n8 ⟨rfl, S8, h8, hn8, k8⟩
    simp only [push_cast, Nat.reduceBEq, Nat.reduceAdd, Nat.reduceEqDiff, reduceCtorEq, Nat.reduceLeDiff, Nat.reduceSub, Nat.reduceMul, Nat.reduceLT, Int.reduceEq, Int.reduceLT, Int.reduceLE, Int.reduceBEq, Int.reduceBNe, Int.reduceToNat, Int.reduceNeg, Int.reduceSub, Int.reduceAdd, z2]
end Go.Proofs.YtjmafbdakalknaaDoor
