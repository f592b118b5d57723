/- Chapter 7's statement FsChains, by the walk over a heap. -/
import Derived.Test.YtjmafbdakalknaaDoorFsChainsP
set_option linter.unusedVariables false
set_option linter.unusedSimpArgs false
namespace Go.Proofs.YtjmafbdakalknaaDoor
open Go Go.RowKit Hv
set_option maxRecDepth 200000
set_option maxHeartbeats 16000000
def alsC : List ByteArray := [nA, nB, nC, nD]
def boolI (b : Bool) : List AV := [.lit (.bool b)]
def thL (there : Nat → Bool) : List Bool := [there 0, there 1, there 2, there 3]
theorem als_ble : Nat.ble 4 alsC.length = true := rfl
theorem als_take : List.take 4 (alsC.map strI) = alsC.map strI := rfl
theorem als_at {k : Nat} (h : k < 4) : alsC[k]? = some (nmC k) := by
  rcases four h with rfl | rfl | rfl | rfl <;> rfl
def posZ : Option Nat → Int
  | none => -1
  | some j => j
theorem posZ_none : posZ none = -1 := rfl
theorem posZ_some (j : Nat) : posZ (some j) = j := rfl
theorem th_ble (there : Nat → Bool) : Nat.ble 4 (thL there).length = true := rfl
theorem th_take (there : Nat → Bool) : List.take 4 ((thL there).map boolI) = (thL there).map boolI := rfl
theorem th_len (there : Nat → Bool) : (thL there).length = 4 := rfl
theorem th_at (there : Nat → Bool) {k : Nat} (h : k < 4) : (thL there)[k]? = some (there k) := by
  rcases four h with rfl | rfl | rfl | rfl <;> rfl
theorem th_set (there : Nat → Bool) {k : Nat} (h : k < 4) (b : Bool) : (thL there).set k b = thL (fun j => if j = k then b else there j) := by
  rcases four h with rfl | rfl | rfl | rfl <;> rfl
def offC (j : Nat) (there : Nat → Bool) : Nat → Bool := fun i => if i = j then false else there i
theorem set_none (there : Nat → Bool) {c : Nat} (h : c < 4) : ((thL there).map boolI).set c [.lit (.bool true)] = (thL (turnC none c there)).map boolI := by
  have e := th_set there h true
  have e2 : (fun j => if j = c then true else there j) = turnC none c there := by
    funext i; unfold turnC
    by_cases hi : i = c
    · rw [if_pos hi, if_pos hi]
    · rw [if_neg hi, if_neg hi, if_neg (fun e => by cases e)]
  rw [← e2, ← e]; exact (List.map_set (f := boolI) ..).symm
theorem set_same (there : Nat → Bool) {c : Nat} (h : c < 4) : ((thL there).map boolI).set c [.lit (.bool true)] = (thL (turnC (some c) c there)).map boolI := by
  have e := th_set there h true
  have e2 : (fun j => if j = c then true else there j) = turnC (some c) c there := by
    funext i; unfold turnC
    by_cases hi : i = c
    · rw [if_pos hi, if_pos hi]
    · rw [if_neg hi, if_neg hi, if_neg (fun e => hi (Option.some.inj e).symm)]
  rw [← e2, ← e]; exact (List.map_set (f := boolI) ..).symm
theorem set_off (there : Nat → Bool) {j : Nat} (h : j < 4) : ((thL there).map boolI).set j [.lit (.bool false)] = (thL (offC j there)).map boolI := by
  have e := th_set there h false
  unfold offC
  rw [← e]; exact (List.map_set (f := boolI) ..).symm
theorem set_diff (there : Nat → Bool) {c j : Nat} (h : c < 4) (hj : j ≠ c) : ((thL (offC j there)).map boolI).set c [.lit (.bool true)] = (thL (turnC (some j) c there)).map boolI := by
  have e := th_set (offC j there) h true
  have e2 : (fun i => if i = c then true else offC j there i) = turnC (some j) c there := by
    funext i; unfold turnC offC
    by_cases hi : i = c
    · rw [if_pos hi, if_pos hi]
    · rw [if_neg hi, if_neg hi]
      by_cases hij : i = j
      · rw [if_pos hij, if_pos (congrArg some hij.symm)]
      · rw [if_neg hij, if_neg (fun e => hij (Option.some.inj e).symm)]
  rw [← e2, ← e]; exact (List.map_set (f := boolI) ..).symm
theorem FsChains_h (names : List Int) (data : ByteArray) : Hv.ACalls Tryd.prog 6 [.sl (names.map intI), .lit (.string data)] (.lit (.bool true)) := by
  refine acallsC_of (rs := [.tmp 4]) ⟨[0, 1, 4, 5, 6, 7, 8, 9, 10, 11, 12, 13, 14, 15, 16, 17, 19, 32, 34, 66, 81, 90, 107, 114, 128, 133, 151, 177], [82], [], [(11, [(0, [], []), (1, [], []), (2, [], []), (3, [], []), (4, [], []), (5, [], [0, 4, 3, 1, 2]), (6, [], []), (7, [], []), (8, [], []), (9, [], []), (10, [], []), (11, [], []), (12, [], []), (13, [], []), (14, [], []), (15, [], []), (16, [], []), (17, [11, 12], [16, 7, 15, 6, 5, 13, 14, 0, 4, 3, 1, 2]), (18, [], [8, 12, 17, 7, 11, 16, 6, 5, 9, 10, 15, 0, 4, 13, 14, 3, 1, 2]), (19, [], []), (20, [], []), (21, [], []), (22, [], []), (23, [], []), (24, [], []), (25, [], []), (26, [], []), (27, [], [22, 26, 21, 25, 20, 18, 23, 24, 7, 19, 8, 12, 17, 6, 5, 11, 16, 0, 4, 9, 10, 15, 3, 13, 14, 1, 2]), (28, [], []), (29, [], [])])]⟩ TOk mixed Tryd.func6 rfl rfl (by kernel_rfl) (by kernel_rfl) rfl (by simp [noId_ints, noId_lit]) (.lit _) ?_
  simp only [push_cast, Nat.reduceBEq, Nat.reduceAdd, Nat.reduceEqDiff, reduceCtorEq, Nat.reduceLeDiff, Nat.reduceSub, Nat.reduceMul, Nat.reduceLT, Int.reduceEq, Int.reduceLT, Int.reduceLE, Int.reduceBEq, Int.reduceBNe, Int.reduceToNat, Int.reduceNeg, Int.reduceSub, Int.reduceAdd]
  refine callH files_c ?_
  rintro _ Ha na ⟨rfl, hna, ka⟩
  obtain ⟨k, hk, hk1, hk2⟩ : ∃ k : Nat, (if (300 : Int) < (data.size : Int) then (300 : Int) else (data.size : Int)) = (k : Int) ∧ k ≤ data.size ∧ k ≤ 300 := by
    by_cases h : (300 : Int) < (data.size : Int)
    · exact ⟨300, if_pos h, by omega, by omega⟩
    · exact ⟨data.size, if_neg h, by omega, by omega⟩
  have hk3 : (0 : Int) ≤ (k : Int) := by omega
  have hk4 : (k : Int) ≤ (data.size : Int) := by omega
  have hk5 : (k : Int).toNat = k := by omega
  obtain ⟨su, hsu, hsl⟩ : ∃ su, data.extract 0 k = su ∧ su.size ≤ 300 := ⟨_, rfl, by rw [ByteArray.size_extract]; omega⟩
  obtain ⟨da, hda⟩ : ∃ da : ByteArray, (⟨#[33]⟩ : ByteArray) ++ su = da := ⟨_, rfl⟩
  have hone : (⟨#[33]⟩ : ByteArray).size = 1 := rfl
  have hdal : da.size = 1 + su.size := by rw [← hda, ByteArray.size_append]; rfl
  have hover : (9223372036854775807 < (⟨#[33]⟩ : ByteArray).size + su.size) = False := eq_false (by rw [hone]; omega)
  have hover' : (9223372036854775807 < 1 + su.size) = False := eq_false (by omega)
  have hdz : da.size.ble 140737488355328 = true := by rw [Nat.ble_eq]; omega
  have hdl : da.data.toList.length ≤ 3000 := by show da.size ≤ _; omega
  have rg4 : ([0, 1, 2, 3] = List.range 4) = True := eq_true rfl
  have rg3 : ([0, 1, 2] = List.range 3) = True := eq_true rfl
  simp only [push_cast, Nat.reduceBEq, Nat.reduceAdd, Nat.reduceEqDiff, reduceCtorEq, Nat.reduceLeDiff, Nat.reduceSub, Nat.reduceMul, Nat.reduceLT, Int.reduceEq, Int.reduceLT, Int.reduceLE, Int.reduceBEq, Int.reduceBNe, Int.reduceToNat, Int.reduceNeg, Int.reduceSub, Int.reduceAdd, rg4, hk, hk3, hk4, hk5, hsu, hover, hover', hda]
  refine callH (new_c (by decide)) ?_
  rintro _ H0 n0 ⟨rfl, S0, h0, hn0, k0⟩
  have b5 : Own H0 n0 S0 na (.row false 9 (alsC.map strI)) := ⟨((k0 na (Nat.lt_succ_self na) fun h => h).1).trans (upd_same _ _ _), Nat.lt_of_lt_of_le (Nat.lt_succ_self na) hn0, (k0 na (Nat.lt_succ_self na) fun h => h).2⟩
  simp only [push_cast, Nat.reduceBEq, Nat.reduceAdd, Nat.reduceEqDiff, reduceCtorEq, Nat.reduceLeDiff, Nat.reduceSub, Nat.reduceMul, Nat.reduceLT, Int.reduceEq, Int.reduceLT, Int.reduceLE, Int.reduceBEq, Int.reduceBNe, Int.reduceToNat, Int.reduceNeg, Int.reduceSub, Int.reduceAdd]
  refine loopK (fun q s => ∃ (k : Nat) (H : Hp) (nn : Nat) (S : Nat → Prop), s = ⟨[(0, .sl (names.map intI)), (1, .lit (.string da)), (5, .rw na 1 0 4), (6, .ptr (na + 1 + 2) 0), (8, .lit (.int .i64 (k : Int)))], H, nn⟩ ∧ k ≤ 4 ∧ q = 4 - k ∧ FsS H nn S (na + 1 + 2) (chS k) ∧ Own H nn S na (.row false 9 (alsC.map strI))) _ [0, 1, 5, 6, 8] ⟨0, H0, n0, S0, rfl, Nat.zero_le _, rfl, h0, b5⟩ ?_
  clear h0 k0 hn0 b5
  rintro q _ ⟨k, H, nn, S, rfl, hk, rfl, h, b5⟩
  by_cases hk4 : k < 4
  · have hk' : (k : Int) < 4 := by omega
    have hx := als_at hk4
    have b5' := b5.at
    have hw := wrap_nat0 (k := k) (by omega)
    obtain ⟨c1, c2, c3, c4⟩ := chS_codes hk4
    simp only [push_cast, Nat.reduceBEq, Nat.reduceAdd, Nat.reduceEqDiff, reduceCtorEq, Nat.reduceLeDiff, Nat.reduceSub, Nat.reduceMul, Nat.reduceLT, Int.reduceEq, Int.reduceLT, Int.reduceLE, Int.reduceBEq, Int.reduceBNe, Int.reduceToNat, Int.reduceNeg, Int.reduceSub, Int.reduceAdd, hk4, hk', hx, b5', als_ble, als_take, strI, strA]
    refine callHD (create_c h (by omega) (nmC k)) ?_
    rintro _ H1 n1 ⟨rfl, S1, h1, hn1, k1⟩
    replace b5 := b5.keep hn1 k1
    have b5' := b5.at
    have hns : (nmC k).size.ble 140737488355328 = true := by rw [Nat.ble_eq]; exact Nat.le_trans (nameB_size (nmC_name k)) (by decide)
    have hnz : (nmC k).size ≤ 1000000000 := Nat.le_trans (nameB_size (nmC_name k)) (by decide)
    have hby : (nmC k).data.toList = byC k := by rcases four hk4 with rfl | rfl | rfl | rfl <;> rfl
    have e1 : (n1 == na) = false := nb (by have := b5.2.1; omega)
    simp only [push_cast, Nat.reduceBEq, Nat.reduceAdd, Nat.reduceEqDiff, reduceCtorEq, Nat.reduceLeDiff, Nat.reduceSub, Nat.reduceMul, Nat.reduceLT, Int.reduceEq, Int.reduceLT, Int.reduceLE, Int.reduceBEq, Int.reduceBNe, Int.reduceToNat, Int.reduceNeg, Int.reduceSub, Int.reduceAdd, c1, hk4, hk', hx, b5', als_ble, als_take, strI, strA, hns, e1]
    refine callHD (append_s h1 (nmC k) (nmC k) hnz) ?_
    rintro _ H2 n2 ⟨rfl, S2, h2, hn2, k2⟩
    rw [hby] at h2
    replace b5 := (b5.new (Nat.le_refl _) (Nat.le_succ _)).keep hn2 k2
    have b5' := b5.at
    simp only [push_cast, Nat.reduceBEq, Nat.reduceAdd, Nat.reduceEqDiff, reduceCtorEq, Nat.reduceLeDiff, Nat.reduceSub, Nat.reduceMul, Nat.reduceLT, Int.reduceEq, Int.reduceLT, Int.reduceLE, Int.reduceBEq, Int.reduceBNe, Int.reduceToNat, Int.reduceNeg, Int.reduceSub, Int.reduceAdd, hby, c2, hk4, hk', hx, b5', als_ble, als_take, strI, strA]
    refine callHD (sync_c h2 (nmC k)) ?_
    rintro _ H3 n3 ⟨rfl, S3, h3, hn3, k3⟩
    replace b5 := b5.keep hn3 k3
    have b5' := b5.at
    simp only [push_cast, Nat.reduceBEq, Nat.reduceAdd, Nat.reduceEqDiff, reduceCtorEq, Nat.reduceLeDiff, Nat.reduceSub, Nat.reduceMul, Nat.reduceLT, Int.reduceEq, Int.reduceLT, Int.reduceLE, Int.reduceBEq, Int.reduceBNe, Int.reduceToNat, Int.reduceNeg, Int.reduceSub, Int.reduceAdd, c3, hw]
    exact ⟨_, by omega, k + 1, _, _, S3, rfl, by omega, rfl, h3, b5⟩
  · have hk' : ¬ (k : Int) < 4 := by omega
    obtain rfl : k = 4 := by omega
    simp only [push_cast, Nat.reduceBEq, Nat.reduceAdd, Nat.reduceEqDiff, reduceCtorEq, Nat.reduceLeDiff, Nat.reduceSub, Nat.reduceMul, Nat.reduceLT, Int.reduceEq, Int.reduceLT, Int.reduceLE, Int.reduceBEq, Int.reduceBNe, Int.reduceToNat, Int.reduceNeg, Int.reduceSub, Int.reduceAdd, hk']
    refine callH (create_c h (Nat.le_of_ble_eq_true (by kernel_rfl)) nIt) ?_
    rintro _ H1 n1 ⟨rfl, S1, h1, hn1, k1⟩
    replace b5 := b5.keep hn1 k1
    rw [chS4] at h1
    simp only [push_cast, Nat.reduceBEq, Nat.reduceAdd, Nat.reduceEqDiff, reduceCtorEq, Nat.reduceLeDiff, Nat.reduceSub, Nat.reduceMul, Nat.reduceLT, Int.reduceEq, Int.reduceLT, Int.reduceLE, Int.reduceBEq, Int.reduceBNe, Int.reduceToNat, Int.reduceNeg, Int.reduceSub, Int.reduceAdd, chS4, hdz]
    refine callH (append_s h1 nIt da (by omega)) ?_
    rintro _ H2 n2 ⟨rfl, S2, h2, hn2, k2⟩
    replace b5 := (b5.new (Nat.le_refl _) (Nat.le_succ _)).keep hn2 k2
    rw [chE1 hdl] at h2
    simp only [push_cast, Nat.reduceBEq, Nat.reduceAdd, Nat.reduceEqDiff, reduceCtorEq, Nat.reduceLeDiff, Nat.reduceSub, Nat.reduceMul, Nat.reduceLT, Int.reduceEq, Int.reduceLT, Int.reduceLE, Int.reduceBEq, Int.reduceBNe, Int.reduceToNat, Int.reduceNeg, Int.reduceSub, Int.reduceAdd, chE1 hdl]
    refine callH (sync_c h2 nIt) ?_
    rintro _ H3 n3 ⟨rfl, S3, h3, hn3, k3⟩
    replace b5 := b5.keep hn3 k3
    rw [chE2] at h3
    simp only [push_cast, Nat.reduceBEq, Nat.reduceAdd, Nat.reduceEqDiff, reduceCtorEq, Nat.reduceLeDiff, Nat.reduceSub, Nat.reduceMul, Nat.reduceLT, Int.reduceEq, Int.reduceLT, Int.reduceLE, Int.reduceBEq, Int.reduceBNe, Int.reduceToNat, Int.reduceNeg, Int.reduceSub, Int.reduceAdd, chE2, rg4]
    have hga : na < n3 := b5.2.1
    have b9 : Own (upd H3 n3 (some (.row true 4 ((thL fun _ => true).map boolI)))) (n3 + 1) S3 n3 (.row true 4 ((thL fun _ => true).map boolI)) := ⟨upd_same _ _ _, Nat.lt_succ_self _, h3.nu (Nat.le_refl _)⟩
    replace b5 := b5.new (m := n3) (o' := some (.row true 4 ((thL fun _ => true).map boolI))) (Nat.le_refl _) (Nat.le_succ _)
    refine loopK (fun q s => ∃ (k : Nat) (pos : Option Nat) (there : Nat → Bool) (d : FsD) (H : Hp) (nn : Nat) (S : Nat → Prop), s = ⟨[(0, .sl (names.map intI)), (1, .lit (.string da)), (5, .rw na 1 0 4), (6, .ptr (na + 1 + 2) 0), (9, .rw n3 1 0 4), (10, .lit (.string (nowC pos))), (11, .lit (.int .i64 (posZ pos))), (12, .lit (.int .i64 (k : Int)))], H, nn⟩ ∧ k ≤ names.length ∧ k ≤ 30 ∧ q = names.length - k ∧ FsS H nn S (na + 1 + 2) d ∧ ChainI da.data.toList pos there d ∧ d.wait.length ≤ 5 + k ∧ Own H nn S na (.row false 9 (alsC.map strI)) ∧ Own H nn S n3 (.row true 4 ((thL there).map boolI))) _ [0, 1, 5, 6, 9, 10, 11, 12] ⟨0, none, fun _ => true, _, _, _, S3, rfl, Nat.zero_le _, Nat.zero_le _, rfl, h3.new (Nat.le_refl _) (Nat.le_succ _), chain_start _, Nat.le_refl _, b5, b9⟩ ?_
    clear h3 k3 hn3 h2 k2 hn2 h1 k1 hn1 h b5 b9
    rintro q _ ⟨k, pos, there, d, H, nn, S, rfl, hkl, hk30, rfl, h, hI, hwt, b5, b9⟩
    have b5' := b5.at
    have b9' := b9.at
    by_cases hkn : k < names.length
    · by_cases hk' : (k : Int) < 30
      · obtain ⟨x, hx⟩ : ∃ x, names[k]? = some x := ⟨_, List.getElem?_eq_getElem hkn⟩
        obtain ⟨c, hc, hc1, hc2⟩ := u64_mod x (K := 4) (by decide) (by decide)
        have hc1 : (IntKind.u64.wrap x).tmod 4 = (c : Int) := hc1
        have hc' : (c : Int) < 4 := by omega
        have hw := wrap_nat0 (k := k) (by omega)
        obtain ⟨u1, u2, u3⟩ := hI.turn h.ok hc
        have hxc := als_at hc
        have htc := th_at there hc
        have hm1 : ¬ ((-1 : Int) ≥ 0) := by omega
        have hg3 : (n3 == n3) = true := beq_self_eq_true n3
        have hg4 : (n3 == na) = false := nb (by omega)
        cases pos with
        | none =>
          simp only [push_cast, Nat.reduceBEq, Nat.reduceAdd, Nat.reduceEqDiff, reduceCtorEq, Nat.reduceLeDiff, Nat.reduceSub, Nat.reduceMul, Nat.reduceLT, Int.reduceEq, Int.reduceLT, Int.reduceLE, Int.reduceBEq, Int.reduceBNe, Int.reduceToNat, Int.reduceNeg, Int.reduceSub, Int.reduceAdd, hkn, hk', hx, hc1, hc2, intI, hc, hc', hxc, b5', als_ble, als_take, strI, strA]
          refine callH (rename_c h (by omega) (nowC none) (nmC c)) ?_
          rintro _ H1 n1 ⟨rfl, S1, h1, hn1, k1⟩
          replace b5 := b5.keep hn1 k1
          replace b9 := b9.keep hn1 k1
          have b5' := b5.at
          have b9' := b9.at
          simp only [push_cast, Nat.reduceBEq, Nat.reduceAdd, Nat.reduceEqDiff, reduceCtorEq, Nat.reduceLeDiff, Nat.reduceSub, Nat.reduceMul, Nat.reduceLT, Int.reduceEq, Int.reduceLT, Int.reduceLE, Int.reduceBEq, Int.reduceBNe, Int.reduceToNat, Int.reduceNeg, Int.reduceSub, Int.reduceAdd, u1, posZ_none, hm1, hc, hc', hxc, htc, b5', b9', als_ble, als_take, th_ble, th_take, strI, strA, boolI, hw, hg3, hg4]
          simp only [set_none there hc]
          exact ⟨_, by omega, k + 1, some c, turnC none c there, _, _, _, S1, rfl, by omega, by omega, rfl, h1.u b9.2.2, u2, by omega, b5.other (by omega), b9.put⟩
        | some j =>
          have hj := (hI.here j rfl).2
          have hj' : (j : Int) < 4 := by omega
          have hj0 : (j : Int) ≥ 0 := by omega
          simp only [push_cast, Nat.reduceBEq, Nat.reduceAdd, Nat.reduceEqDiff, reduceCtorEq, Nat.reduceLeDiff, Nat.reduceSub, Nat.reduceMul, Nat.reduceLT, Int.reduceEq, Int.reduceLT, Int.reduceLE, Int.reduceBEq, Int.reduceBNe, Int.reduceToNat, Int.reduceNeg, Int.reduceSub, Int.reduceAdd, hkn, hk', hx, hc1, hc2, intI, hc, hc', hxc, b5', als_ble, als_take, strI, strA]
          refine callH (rename_c h (by omega) (nowC (some j)) (nmC c)) ?_
          rintro _ H1 n1 ⟨rfl, S1, h1, hn1, k1⟩
          replace b5 := b5.keep hn1 k1
          replace b9 := b9.keep hn1 k1
          have b5' := b5.at
          have b9' := b9.at
          by_cases hjc : j = c
          · subst hjc
            have hne : ((j : Int) != (j : Int)) = false := by simp
            simp only [push_cast, Nat.reduceBEq, Nat.reduceAdd, Nat.reduceEqDiff, reduceCtorEq, Nat.reduceLeDiff, Nat.reduceSub, Nat.reduceMul, Nat.reduceLT, Int.reduceEq, Int.reduceLT, Int.reduceLE, Int.reduceBEq, Int.reduceBNe, Int.reduceToNat, Int.reduceNeg, Int.reduceSub, Int.reduceAdd, u1, posZ_some, hj0, hne, hc, hc', hxc, htc, b5', b9', als_ble, als_take, th_ble, th_take, strI, strA, boolI, hw, hg3, hg4]
            simp only [set_same there hc]
            exact ⟨_, by omega, k + 1, some j, turnC (some j) j there, _, _, _, S1, rfl, by omega, by omega, rfl, h1.u b9.2.2, u2, by omega, b5.other (by omega), b9.put⟩
          · have hne : ((j : Int) != (c : Int)) = true := by simp; omega
            have htj := th_at there hj
            have hto := th_at (offC j there) hc
            have hso := set_off there hj
            have hsd := set_diff there hc hjc
            simp only [push_cast, Nat.reduceBEq, Nat.reduceAdd, Nat.reduceEqDiff, reduceCtorEq, Nat.reduceLeDiff, Nat.reduceSub, Nat.reduceMul, Nat.reduceLT, Int.reduceEq, Int.reduceLT, Int.reduceLE, Int.reduceBEq, Int.reduceBNe, Int.reduceToNat, Int.reduceNeg, Int.reduceSub, Int.reduceAdd, u1, posZ_some, hj0, hne, hj, hj', hc, hc', hxc, htc, htj, b5', b9', als_ble, als_take, th_ble, th_take, strI, strA, boolI, hw, hg3, hg4, hso, hto, hsd]
            exact ⟨_, by omega, k + 1, some c, turnC (some j) c there, _, _, _, S1, rfl, by omega, by omega, rfl, (h1.u b9.2.2).u b9.2.2, u2, by omega, (b5.other (by omega)).other (by omega), b9.put.put⟩
      · obtain ⟨v1, v2, v3, v4⟩ := hI.ends [7, 7, 7] (by show da.size ≤ _; omega)
        simp only [push_cast, Nat.reduceBEq, Nat.reduceAdd, Nat.reduceEqDiff, reduceCtorEq, Nat.reduceLeDiff, Nat.reduceSub, Nat.reduceMul, Nat.reduceLT, Int.reduceEq, Int.reduceLT, Int.reduceLE, Int.reduceBEq, Int.reduceBNe, Int.reduceToNat, Int.reduceNeg, Int.reduceSub, Int.reduceAdd, hkn, hk']
        refine callH (syncDir_c h) ?_
        rintro _ H1 n1 ⟨rfl, S1, h1, hn1, k1⟩
        replace b5 := b5.keep hn1 k1
        replace b9 := b9.keep hn1 k1
        simp (maxSteps := 2000000) only [push_cast, Nat.reduceBEq, Nat.reduceAdd, Nat.reduceEqDiff, reduceCtorEq, Nat.reduceLeDiff, Nat.reduceSub, Nat.reduceMul, Nat.reduceLT, Int.reduceEq, Int.reduceLT, Int.reduceLE, Int.reduceBEq, Int.reduceBNe, Int.reduceToNat, Int.reduceNeg, Int.reduceSub, Int.reduceAdd, v1, rg3]
        refine callH (crash_c (picks := [7, 7, 7]) (h1.new (Nat.le_refl _) (Nat.le_succ _)) (by rw [v4]; exact Nat.zero_le _) (.inr (.inr ⟨n1, [7, 7, 7], 0, rfl, Nat.lt_succ_self _, upd_same _ _ _, rfl, by decide⟩))) ?_
        rintro _ H2 n2 ⟨rfl, S2, h2, hn2, k2⟩
        replace b5 := (b5.new (Nat.le_refl _) (Nat.le_succ _)).keep hn2 k2
        replace b9 := (b9.new (Nat.le_refl _) (Nat.le_succ _)).keep hn2 k2
        obtain ⟨dz, hdz'⟩ : ∃ dz, d.syncDir.1.crash [7, 7, 7] = dz := ⟨_, rfl⟩
        rw [hdz'] at h2 v2 v3
        simp only [push_cast, Nat.reduceBEq, Nat.reduceAdd, Nat.reduceEqDiff, reduceCtorEq, Nat.reduceLeDiff, Nat.reduceSub, Nat.reduceMul, Nat.reduceLT, Int.reduceEq, Int.reduceLT, Int.reduceLE, Int.reduceBEq, Int.reduceBNe, Int.reduceToNat, Int.reduceNeg, Int.reduceSub, Int.reduceAdd]
        refine loopK (fun q s => ∃ (k : Nat) (H : Hp) (nn : Nat) (S : Nat → Prop), s = ⟨[(1, .lit (.string da)), (5, .rw na 1 0 4), (6, .ptr (na + 1 + 2) 0), (9, .rw n3 1 0 4), (11, .lit (.int .i64 (posZ pos))), (14, .lit (.int .i64 (k : Int)))], H, nn⟩ ∧ k ≤ 4 ∧ q = 4 - k ∧ FsS H nn S (na + 1 + 2) dz ∧ Own H nn S na (.row false 9 (alsC.map strI)) ∧ Own H nn S n3 (.row true 4 ((thL there).map boolI))) _ [1, 5, 6, 9, 11, 14] ⟨0, H2, n2, S2, rfl, Nat.zero_le _, rfl, h2, b5, b9⟩ ?_
        clear h2 k2 hn2 h1 k1 hn1 h b5 b9 b5' b9'
        rintro q _ ⟨i, H, nn, S, rfl, hi, rfl, h, b5, b9⟩
        have b5' := b5.at
        have b9' := b9.at
        by_cases hi4 : i < 4
        · have hi' : (i : Int) < 4 := by omega
          have hx := als_at hi4
          have htx := th_at there hi4
          have hw := wrap_nat0 (k := i) (by omega)
          have hv := v2 i hi4
          simp only [push_cast, Nat.reduceBEq, Nat.reduceAdd, Nat.reduceEqDiff, reduceCtorEq, Nat.reduceLeDiff, Nat.reduceSub, Nat.reduceMul, Nat.reduceLT, Int.reduceEq, Int.reduceLT, Int.reduceLE, Int.reduceBEq, Int.reduceBNe, Int.reduceToNat, Int.reduceNeg, Int.reduceSub, Int.reduceAdd, hi4, hi', hx, b5', als_ble, als_take, strI, strA]
          refine callH (read_c h (nmC i) 0 1000 (by decide)) ?_
          rintro _ H9 n9 h9
          by_cases hp : pos = some i
          · rw [hv, if_pos hp] at h9
            have ht : there i = true := (hI.here i hp).1
            rw [ht] at htx
            have heq : ((i : Int) == posZ pos) = true := by rw [hp, posZ_some]; exact beq_self_eq_true _
            obtain ⟨hn9, hk9, res, rfl, ⟨rfl, hh⟩ | ⟨g, gm, rfl, hg1, hg2, hg, hgm⟩⟩ := h9
            · exact absurd (congrArg List.length hh) (by show da.size ≠ 0; omega)
            · have hq1 : (⟨da.data.toList.toArray⟩ : ByteArray) = da := rfl
              have hq2 : Nat.ble da.data.toList.length (byL da.data.toList).length = true := by rw [Nat.ble_eq, byL_len]; omega
              have hq3 : (byL da.data.toList).take da.data.toList.length = byL da.data.toList := List.take_of_length_le (Nat.le_of_eq (byL_len _))
              replace h := h.same hn9 hk9
              replace b5 := b5.same hn9 hk9
              replace b9 := b9.same hn9 hk9
              have b5' := b5.at
              have b9' := b9.at
              cases gm
              · simp (maxSteps := 400000) only [push_cast, Nat.reduceBEq, Nat.reduceAdd, Nat.reduceEqDiff, reduceCtorEq, Nat.reduceLeDiff, Nat.reduceSub, Nat.reduceMul, Nat.reduceLT, Int.reduceEq, Int.reduceLT, Int.reduceLE, Int.reduceBEq, Int.reduceBNe, Int.reduceToNat, Int.reduceNeg, Int.reduceSub, Int.reduceAdd, hi4, hi', hx, htx, heq, b5', b9', als_ble, als_take, th_ble, th_take, boolI, strI, strA, hg, hq2, hq3, bytesOf_byL, strOf_byL, hq1, bne_self, hw]
                exact ⟨_, by omega, i + 1, _, _, S, rfl, by omega, rfl, h, b5, b9⟩
              · simp (maxSteps := 400000) only [push_cast, Nat.reduceBEq, Nat.reduceAdd, Nat.reduceEqDiff, reduceCtorEq, Nat.reduceLeDiff, Nat.reduceSub, Nat.reduceMul, Nat.reduceLT, Int.reduceEq, Int.reduceLT, Int.reduceLE, Int.reduceBEq, Int.reduceBNe, Int.reduceToNat, Int.reduceNeg, Int.reduceSub, Int.reduceAdd, hi4, hi', hx, htx, heq, b5', b9', als_ble, als_take, th_ble, th_take, boolI, strI, strA, hg, hq2, hq3, bytesOf_byL, strOf_byL, hq1, bne_self, hw]
                exact ⟨_, by omega, i + 1, _, _, S, rfl, by omega, rfl, h, b5, b9⟩
          · have heq : ((i : Int) == posZ pos) = false := by
              rw [beq_eq_false_iff_ne]
              cases hpz : pos with
              | none => rw [posZ_none]; omega
              | some j => rw [posZ_some]; intro e; exact hp (by rw [hpz]; congr 1; omega)
            rw [hv, if_neg hp] at h9
            by_cases ht : there i = true
            · rw [if_pos ht] at h9
              rw [ht] at htx
              have hby : (⟨(byC i).toArray⟩ : ByteArray) = nmC i := by rcases four hi4 with rfl | rfl | rfl | rfl <;> rfl
              have hbl : 0 < (byC i).length := by rcases four hi4 with rfl | rfl | rfl | rfl <;> exact Nat.zero_lt_one
              obtain ⟨hn9, hk9, res, rfl, ⟨rfl, hh⟩ | ⟨g, gm, rfl, hg1, hg2, hg, hgm⟩⟩ := h9
              · have hh : byC i = [] := hh
                rw [hh] at hbl; exact absurd hbl (Nat.lt_irrefl 0)
              · have hq2 : Nat.ble (byC i).length (byL (byC i)).length = true := by rw [Nat.ble_eq, byL_len]; omega
                have hq3 : (byL (byC i)).take (byC i).length = byL (byC i) := List.take_of_length_le (Nat.le_of_eq (byL_len _))
                replace h := h.same hn9 hk9
                replace b5 := b5.same hn9 hk9
                replace b9 := b9.same hn9 hk9
                have b5' := b5.at
                have b9' := b9.at
                cases gm
                · simp (maxSteps := 400000) only [push_cast, Nat.reduceBEq, Nat.reduceAdd, Nat.reduceEqDiff, reduceCtorEq, Nat.reduceLeDiff, Nat.reduceSub, Nat.reduceMul, Nat.reduceLT, Int.reduceEq, Int.reduceLT, Int.reduceLE, Int.reduceBEq, Int.reduceBNe, Int.reduceToNat, Int.reduceNeg, Int.reduceSub, Int.reduceAdd, hi4, hi', hx, htx, heq, b5', b9', als_ble, als_take, th_ble, th_take, boolI, strI, strA, hg, hq2, hq3, bytesOf_byL, strOf_byL, hby, bne_self, hw]
                  exact ⟨_, by omega, i + 1, _, _, S, rfl, by omega, rfl, h, b5, b9⟩
                · simp (maxSteps := 400000) only [push_cast, Nat.reduceBEq, Nat.reduceAdd, Nat.reduceEqDiff, reduceCtorEq, Nat.reduceLeDiff, Nat.reduceSub, Nat.reduceMul, Nat.reduceLT, Int.reduceEq, Int.reduceLT, Int.reduceLE, Int.reduceBEq, Int.reduceBNe, Int.reduceToNat, Int.reduceNeg, Int.reduceSub, Int.reduceAdd, hi4, hi', hx, htx, heq, b5', b9', als_ble, als_take, th_ble, th_take, boolI, strI, strA, hg, hq2, hq3, bytesOf_byL, strOf_byL, hby, bne_self, hw]
                  exact ⟨_, by omega, i + 1, _, _, S, rfl, by omega, rfl, h, b5, b9⟩
            · rw [if_neg ht] at h9
              have ht : there i = false := by simpa using ht
              rw [ht] at htx
              obtain ⟨hn9, hk9, res, rfl, ⟨rfl, hh⟩ | ⟨g, gm, rfl, hg1, hg2, hg, hgm⟩⟩ := h9
              · replace h := h.same hn9 hk9
                replace b5 := b5.same hn9 hk9
                replace b9 := b9.same hn9 hk9
                have b5' := b5.at
                have b9' := b9.at
                simp (maxSteps := 400000) only [push_cast, Nat.reduceBEq, Nat.reduceAdd, Nat.reduceEqDiff, reduceCtorEq, Nat.reduceLeDiff, Nat.reduceSub, Nat.reduceMul, Nat.reduceLT, Int.reduceEq, Int.reduceLT, Int.reduceLE, Int.reduceBEq, Int.reduceBNe, Int.reduceToNat, Int.reduceNeg, Int.reduceSub, Int.reduceAdd, hi4, hi', hx, htx, heq, b5', b9', als_ble, als_take, th_ble, th_take, boolI, strI, strA, hw]
                exact ⟨_, by omega, i + 1, _, _, S, rfl, by omega, rfl, h, b5, b9⟩
              · replace h := h.same hn9 hk9
                replace b5 := b5.same hn9 hk9
                replace b9 := b9.same hn9 hk9
                have b5' := b5.at
                have b9' := b9.at
                simp (maxSteps := 400000) only [push_cast, Nat.reduceBEq, Nat.reduceAdd, Nat.reduceEqDiff, reduceCtorEq, Nat.reduceLeDiff, Nat.reduceSub, Nat.reduceMul, Nat.reduceLT, Int.reduceEq, Int.reduceLT, Int.reduceLE, Int.reduceBEq, Int.reduceBNe, Int.reduceToNat, Int.reduceNeg, Int.reduceSub, Int.reduceAdd, hi4, hi', hx, htx, heq, b5', b9', als_ble, als_take, th_ble, th_take, boolI, strI, strA, hw]
                exact ⟨_, by omega, i + 1, _, _, S, rfl, by omega, rfl, h, b5, b9⟩
        · have hi' : ¬ (i : Int) < 4 := by omega
          simp only [push_cast, Nat.reduceBEq, Nat.reduceAdd, Nat.reduceEqDiff, reduceCtorEq, Nat.reduceLeDiff, Nat.reduceSub, Nat.reduceMul, Nat.reduceLT, Int.reduceEq, Int.reduceLT, Int.reduceLE, Int.reduceBEq, Int.reduceBNe, Int.reduceToNat, Int.reduceNeg, Int.reduceSub, Int.reduceAdd, hi4, hi']
          refine callH (size_c h nIt) ?_
          rintro _ _ _ ⟨rfl, rfl, rfl⟩
          cases hpz : pos with
          | none =>
            rw [hpz] at v3
            have hm1 : (-1 : Int) < 0 := by omega
            simp only [push_cast, Nat.reduceBEq, Nat.reduceAdd, Nat.reduceEqDiff, reduceCtorEq, Nat.reduceLeDiff, Nat.reduceSub, Nat.reduceMul, Nat.reduceLT, Int.reduceEq, Int.reduceLT, Int.reduceLE, Int.reduceBEq, Int.reduceBNe, Int.reduceToNat, Int.reduceNeg, Int.reduceSub, Int.reduceAdd, v3, if_pos, posZ_none, hm1]
          | some j =>
            rw [hpz] at v3
            have v3 : (dz.size nIt).2 = 7 := v3.trans (if_neg fun e => by cases e)
            have hm1 : ¬ (j : Int) < 0 := by omega
            simp only [push_cast, Nat.reduceBEq, Nat.reduceAdd, Nat.reduceEqDiff, reduceCtorEq, Nat.reduceLeDiff, Nat.reduceSub, Nat.reduceMul, Nat.reduceLT, Int.reduceEq, Int.reduceLT, Int.reduceLE, Int.reduceBEq, Int.reduceBNe, Int.reduceToNat, Int.reduceNeg, Int.reduceSub, Int.reduceAdd, v3, posZ_some, hm1]
    · obtain ⟨v1, v2, v3, v4⟩ := hI.ends [7, 7, 7] (by show da.size ≤ _; omega)
      simp only [push_cast, Nat.reduceBEq, Nat.reduceAdd, Nat.reduceEqDiff, reduceCtorEq, Nat.reduceLeDiff, Nat.reduceSub, Nat.reduceMul, Nat.reduceLT, Int.reduceEq, Int.reduceLT, Int.reduceLE, Int.reduceBEq, Int.reduceBNe, Int.reduceToNat, Int.reduceNeg, Int.reduceSub, Int.reduceAdd, hkn]
      refine callH (syncDir_c h) ?_
      rintro _ H1 n1 ⟨rfl, S1, h1, hn1, k1⟩
      replace b5 := b5.keep hn1 k1
      replace b9 := b9.keep hn1 k1
      simp (maxSteps := 2000000) only [push_cast, Nat.reduceBEq, Nat.reduceAdd, Nat.reduceEqDiff, reduceCtorEq, Nat.reduceLeDiff, Nat.reduceSub, Nat.reduceMul, Nat.reduceLT, Int.reduceEq, Int.reduceLT, Int.reduceLE, Int.reduceBEq, Int.reduceBNe, Int.reduceToNat, Int.reduceNeg, Int.reduceSub, Int.reduceAdd, v1, rg3]
      refine callH (crash_c (picks := [7, 7, 7]) (h1.new (Nat.le_refl _) (Nat.le_succ _)) (by rw [v4]; exact Nat.zero_le _) (.inr (.inr ⟨n1, [7, 7, 7], 0, rfl, Nat.lt_succ_self _, upd_same _ _ _, rfl, by decide⟩))) ?_
      rintro _ H2 n2 ⟨rfl, S2, h2, hn2, k2⟩
      replace b5 := (b5.new (Nat.le_refl _) (Nat.le_succ _)).keep hn2 k2
      replace b9 := (b9.new (Nat.le_refl _) (Nat.le_succ _)).keep hn2 k2
      obtain ⟨dz, hdz'⟩ : ∃ dz, d.syncDir.1.crash [7, 7, 7] = dz := ⟨_, rfl⟩
      rw [hdz'] at h2 v2 v3
      simp only [push_cast, Nat.reduceBEq, Nat.reduceAdd, Nat.reduceEqDiff, reduceCtorEq, Nat.reduceLeDiff, Nat.reduceSub, Nat.reduceMul, Nat.reduceLT, Int.reduceEq, Int.reduceLT, Int.reduceLE, Int.reduceBEq, Int.reduceBNe, Int.reduceToNat, Int.reduceNeg, Int.reduceSub, Int.reduceAdd]
      refine loopK (fun q s => ∃ (k : Nat) (H : Hp) (nn : Nat) (S : Nat → Prop), s = ⟨[(1, .lit (.string da)), (5, .rw na 1 0 4), (6, .ptr (na + 1 + 2) 0), (9, .rw n3 1 0 4), (11, .lit (.int .i64 (posZ pos))), (14, .lit (.int .i64 (k : Int)))], H, nn⟩ ∧ k ≤ 4 ∧ q = 4 - k ∧ FsS H nn S (na + 1 + 2) dz ∧ Own H nn S na (.row false 9 (alsC.map strI)) ∧ Own H nn S n3 (.row true 4 ((thL there).map boolI))) _ [1, 5, 6, 9, 11, 14] ⟨0, H2, n2, S2, rfl, Nat.zero_le _, rfl, h2, b5, b9⟩ ?_
      clear h2 k2 hn2 h1 k1 hn1 h b5 b9 b5' b9'
      rintro q _ ⟨i, H, nn, S, rfl, hi, rfl, h, b5, b9⟩
      have b5' := b5.at
      have b9' := b9.at
      by_cases hi4 : i < 4
      · have hi' : (i : Int) < 4 := by omega
        have hx := als_at hi4
        have htx := th_at there hi4
        have hw := wrap_nat0 (k := i) (by omega)
        have hv := v2 i hi4
        simp only [push_cast, Nat.reduceBEq, Nat.reduceAdd, Nat.reduceEqDiff, reduceCtorEq, Nat.reduceLeDiff, Nat.reduceSub, Nat.reduceMul, Nat.reduceLT, Int.reduceEq, Int.reduceLT, Int.reduceLE, Int.reduceBEq, Int.reduceBNe, Int.reduceToNat, Int.reduceNeg, Int.reduceSub, Int.reduceAdd, hi4, hi', hx, b5', als_ble, als_take, strI, strA]
        refine callH (read_c h (nmC i) 0 1000 (by decide)) ?_
        rintro _ H9 n9 h9
        by_cases hp : pos = some i
        · rw [hv, if_pos hp] at h9
          have ht : there i = true := (hI.here i hp).1
          rw [ht] at htx
          have heq : ((i : Int) == posZ pos) = true := by rw [hp, posZ_some]; exact beq_self_eq_true _
          obtain ⟨hn9, hk9, res, rfl, ⟨rfl, hh⟩ | ⟨g, gm, rfl, hg1, hg2, hg, hgm⟩⟩ := h9
          · exact absurd (congrArg List.length hh) (by show da.size ≠ 0; omega)
          · have hq1 : (⟨da.data.toList.toArray⟩ : ByteArray) = da := rfl
            have hq2 : Nat.ble da.data.toList.length (byL da.data.toList).length = true := by rw [Nat.ble_eq, byL_len]; omega
            have hq3 : (byL da.data.toList).take da.data.toList.length = byL da.data.toList := List.take_of_length_le (Nat.le_of_eq (byL_len _))
            replace h := h.same hn9 hk9
            replace b5 := b5.same hn9 hk9
            replace b9 := b9.same hn9 hk9
            have b5' := b5.at
            have b9' := b9.at
            cases gm
            · simp (maxSteps := 400000) only [push_cast, Nat.reduceBEq, Nat.reduceAdd, Nat.reduceEqDiff, reduceCtorEq, Nat.reduceLeDiff, Nat.reduceSub, Nat.reduceMul, Nat.reduceLT, Int.reduceEq, Int.reduceLT, Int.reduceLE, Int.reduceBEq, Int.reduceBNe, Int.reduceToNat, Int.reduceNeg, Int.reduceSub, Int.reduceAdd, hi4, hi', hx, htx, heq, b5', b9', als_ble, als_take, th_ble, th_take, boolI, strI, strA, hg, hq2, hq3, bytesOf_byL, strOf_byL, hq1, bne_self, hw]
              exact ⟨_, by omega, i + 1, _, _, S, rfl, by omega, rfl, h, b5, b9⟩
            · simp (maxSteps := 400000) only [push_cast, Nat.reduceBEq, Nat.reduceAdd, Nat.reduceEqDiff, reduceCtorEq, Nat.reduceLeDiff, Nat.reduceSub, Nat.reduceMul, Nat.reduceLT, Int.reduceEq, Int.reduceLT, Int.reduceLE, Int.reduceBEq, Int.reduceBNe, Int.reduceToNat, Int.reduceNeg, Int.reduceSub, Int.reduceAdd, hi4, hi', hx, htx, heq, b5', b9', als_ble, als_take, th_ble, th_take, boolI, strI, strA, hg, hq2, hq3, bytesOf_byL, strOf_byL, hq1, bne_self, hw]
              exact ⟨_, by omega, i + 1, _, _, S, rfl, by omega, rfl, h, b5, b9⟩
        · have heq : ((i : Int) == posZ pos) = false := by
            rw [beq_eq_false_iff_ne]
            cases hpz : pos with
            | none => rw [posZ_none]; omega
            | some j => rw [posZ_some]; intro e; exact hp (by rw [hpz]; congr 1; omega)
          rw [hv, if_neg hp] at h9
          by_cases ht : there i = true
          · rw [if_pos ht] at h9
            rw [ht] at htx
            have hby : (⟨(byC i).toArray⟩ : ByteArray) = nmC i := by rcases four hi4 with rfl | rfl | rfl | rfl <;> rfl
            have hbl : 0 < (byC i).length := by rcases four hi4 with rfl | rfl | rfl | rfl <;> exact Nat.zero_lt_one
            obtain ⟨hn9, hk9, res, rfl, ⟨rfl, hh⟩ | ⟨g, gm, rfl, hg1, hg2, hg, hgm⟩⟩ := h9
            · have hh : byC i = [] := hh
              rw [hh] at hbl; exact absurd hbl (Nat.lt_irrefl 0)
            · have hq2 : Nat.ble (byC i).length (byL (byC i)).length = true := by rw [Nat.ble_eq, byL_len]; omega
              have hq3 : (byL (byC i)).take (byC i).length = byL (byC i) := List.take_of_length_le (Nat.le_of_eq (byL_len _))
              replace h := h.same hn9 hk9
              replace b5 := b5.same hn9 hk9
              replace b9 := b9.same hn9 hk9
              have b5' := b5.at
              have b9' := b9.at
              cases gm
              · simp (maxSteps := 400000) only [push_cast, Nat.reduceBEq, Nat.reduceAdd, Nat.reduceEqDiff, reduceCtorEq, Nat.reduceLeDiff, Nat.reduceSub, Nat.reduceMul, Nat.reduceLT, Int.reduceEq, Int.reduceLT, Int.reduceLE, Int.reduceBEq, Int.reduceBNe, Int.reduceToNat, Int.reduceNeg, Int.reduceSub, Int.reduceAdd, hi4, hi', hx, htx, heq, b5', b9', als_ble, als_take, th_ble, th_take, boolI, strI, strA, hg, hq2, hq3, bytesOf_byL, strOf_byL, hby, bne_self, hw]
                exact ⟨_, by omega, i + 1, _, _, S, rfl, by omega, rfl, h, b5, b9⟩
              · simp (maxSteps := 400000) only [push_cast, Nat.reduceBEq, Nat.reduceAdd, Nat.reduceEqDiff, reduceCtorEq, Nat.reduceLeDiff, Nat.reduceSub, Nat.reduceMul, Nat.reduceLT, Int.reduceEq, Int.reduceLT, Int.reduceLE, Int.reduceBEq, Int.reduceBNe, Int.reduceToNat, Int.reduceNeg, Int.reduceSub, Int.reduceAdd, hi4, hi', hx, htx, heq, b5', b9', als_ble, als_take, th_ble, th_take, boolI, strI, strA, hg, hq2, hq3, bytesOf_byL, strOf_byL, hby, bne_self, hw]
                exact ⟨_, by omega, i + 1, _, _, S, rfl, by omega, rfl, h, b5, b9⟩
          · rw [if_neg ht] at h9
            have ht : there i = false := by simpa using ht
            rw [ht] at htx
            obtain ⟨hn9, hk9, res, rfl, ⟨rfl, hh⟩ | ⟨g, gm, rfl, hg1, hg2, hg, hgm⟩⟩ := h9
            · replace h := h.same hn9 hk9
              replace b5 := b5.same hn9 hk9
              replace b9 := b9.same hn9 hk9
              have b5' := b5.at
              have b9' := b9.at
              simp (maxSteps := 400000) only [push_cast, Nat.reduceBEq, Nat.reduceAdd, Nat.reduceEqDiff, reduceCtorEq, Nat.reduceLeDiff, Nat.reduceSub, Nat.reduceMul, Nat.reduceLT, Int.reduceEq, Int.reduceLT, Int.reduceLE, Int.reduceBEq, Int.reduceBNe, Int.reduceToNat, Int.reduceNeg, Int.reduceSub, Int.reduceAdd, hi4, hi', hx, htx, heq, b5', b9', als_ble, als_take, th_ble, th_take, boolI, strI, strA, hw]
              exact ⟨_, by omega, i + 1, _, _, S, rfl, by omega, rfl, h, b5, b9⟩
            · replace h := h.same hn9 hk9
              replace b5 := b5.same hn9 hk9
              replace b9 := b9.same hn9 hk9
              have b5' := b5.at
              have b9' := b9.at
              simp (maxSteps := 400000) only [push_cast, Nat.reduceBEq, Nat.reduceAdd, Nat.reduceEqDiff, reduceCtorEq, Nat.reduceLeDiff, Nat.reduceSub, Nat.reduceMul, Nat.reduceLT, Int.reduceEq, Int.reduceLT, Int.reduceLE, Int.reduceBEq, Int.reduceBNe, Int.reduceToNat, Int.reduceNeg, Int.reduceSub, Int.reduceAdd, hi4, hi', hx, htx, heq, b5', b9', als_ble, als_take, th_ble, th_take, boolI, strI, strA, hw]
              exact ⟨_, by omega, i + 1, _, _, S, rfl, by omega, rfl, h, b5, b9⟩
      · have hi' : ¬ (i : Int) < 4 := by omega
        simp only [push_cast, Nat.reduceBEq, Nat.reduceAdd, Nat.reduceEqDiff, reduceCtorEq, Nat.reduceLeDiff, Nat.reduceSub, Nat.reduceMul, Nat.reduceLT, Int.reduceEq, Int.reduceLT, Int.reduceLE, Int.reduceBEq, Int.reduceBNe, Int.reduceToNat, Int.reduceNeg, Int.reduceSub, Int.reduceAdd, hi4, hi']
        refine callH (size_c h nIt) ?_
        rintro _ _ _ ⟨rfl, rfl, rfl⟩
        cases hpz : pos with
        | none =>
          rw [hpz] at v3
          have hm1 : (-1 : Int) < 0 := by omega
          simp only [push_cast, Nat.reduceBEq, Nat.reduceAdd, Nat.reduceEqDiff, reduceCtorEq, Nat.reduceLeDiff, Nat.reduceSub, Nat.reduceMul, Nat.reduceLT, Int.reduceEq, Int.reduceLT, Int.reduceLE, Int.reduceBEq, Int.reduceBNe, Int.reduceToNat, Int.reduceNeg, Int.reduceSub, Int.reduceAdd, v3, if_pos, posZ_none, hm1]
        | some j =>
          rw [hpz] at v3
          have v3 : (dz.size nIt).2 = 7 := v3.trans (if_neg fun e => by cases e)
          have hm1 : ¬ (j : Int) < 0 := by omega
          simp only [push_cast, Nat.reduceBEq, Nat.reduceAdd, Nat.reduceEqDiff, reduceCtorEq, Nat.reduceLeDiff, Nat.reduceSub, Nat.reduceMul, Nat.reduceLT, Int.reduceEq, Int.reduceLT, Int.reduceLE, Int.reduceBEq, Int.reduceBNe, Int.reduceToNat, Int.reduceNeg, Int.reduceSub, Int.reduceAdd, v3, posZ_some, hm1]
end Go.Proofs.YtjmafbdakalknaaDoor
