/- Chapter 7's statement FsKeeps, by the walk over a heap. -/
import Derived.Test.YtjmafbdakalknaaDoorFsKeepsP
import Derived.Test.YtjmafbdakalknaaDoorFsLow
set_option linter.unusedVariables false
set_option linter.unusedSimpArgs false
namespace Go.Proofs.YtjmafbdakalknaaDoor
open Go Go.RowKit Hv
set_option maxRecDepth 200000
set_option maxHeartbeats 32000000
def kpsL : List ByteArray := [kpN 0, kpN 1, kpN 2, kpN 3, kpN 4]
theorem kps_ble : Nat.ble 5 kpsL.length = true := rfl
theorem kps_take : List.take 5 (kpsL.map strI) = kpsL.map strI := rfl
theorem kps_at {k : Nat} (h : k < 5) : kpsL[k]? = some (kpN k) := by
  rcases five h with rfl | rfl | rfl | rfl | rfl <;> rfl
def svL (n : Nat) (f : Nat → ByteArray) : List ByteArray := (List.range n).map f
theorem sv_len (n : Nat) (f : Nat → ByteArray) : (svL n f).length = n := by unfold svL; rw [List.length_map, List.length_range]
theorem sv_at {n k : Nat} (f : Nat → ByteArray) (h : k < n) : (svL n f)[k]? = some (f k) := by
  unfold svL; rw [List.getElem?_map, List.getElem?_range h]; rfl
theorem sv_ble (n : Nat) (f : Nat → ByteArray) : Nat.ble n (svL n f).length = true := by rw [Nat.ble_eq, sv_len]; exact Nat.le_refl n
theorem sv_take (n : Nat) (f : Nat → ByteArray) : List.take n ((svL n f).map strI) = (svL n f).map strI := List.take_of_length_le (by rw [List.length_map, sv_len]; exact Nat.le_refl n)
theorem sv_set {n k : Nat} (f : Nat → ByteArray) (v : ByteArray) : ((svL n f).map strI).set k [.lit (.string v)] = (svL n (fun j => if j = k then v else f j)).map strI := by
  have e : (svL n f).set k v = svL n (fun j => if j = k then v else f j) := by
    apply List.ext_getElem?
    intro i
    rw [List.getElem?_set, sv_len]
    by_cases hi : i < n
    · rw [sv_at _ hi, sv_at _ hi]
      by_cases hk : k = i
      · subst hk; rw [if_pos rfl, if_pos hi, if_pos rfl]
      · rw [if_neg hk, if_neg (fun e => hk e.symm)]
    · have h1 : (svL n f)[i]? = none := List.getElem?_eq_none_iff.2 (by rw [sv_len]; omega)
      have h2 : (svL n (fun j => if j = k then v else f j))[i]? = none := List.getElem?_eq_none_iff.2 (by rw [sv_len]; omega)
      rw [h1, h2]
      by_cases hk : k = i
      · subst hk; rw [if_pos rfl, if_neg hi]
      · rw [if_neg hk]
  rw [← e]; exact (List.map_set (f := strI) ..).symm
theorem sv_nil (n : Nat) : List.replicate n [AV.lit (.string ⟨#[]⟩)] = (svL n fun _ => ⟨#[]⟩).map strI := by
  unfold svL
  rw [List.map_map]
  exact (List.eq_replicate_iff.2 ⟨by rw [List.length_map, List.length_range], fun b hb => by obtain ⟨k, _, rfl⟩ := List.mem_map.1 hb; rfl⟩).symm
theorem sv_congr {n : Nat} {f g : Nat → ByteArray} (h : ∀ k, k < n → f k = g k) : svL n f = svL n g := List.map_congr_left fun k hk => h k (List.mem_range.1 hk)
theorem min_at (s c : Nat) : ∃ k : Nat, (if (c : Int) < (s : Int) then (c : Int) else (s : Int)) = (k : Int) ∧ k ≤ s ∧ k ≤ c ∧ (k : Int).toNat = k ∧ (0 : Int) ≤ (k : Int) ∧ (k : Int) ≤ (s : Int) := by
  by_cases h : (c : Int) < (s : Int)
  · exact ⟨c, if_pos h, by omega, by omega, by omega, by omega, by omega⟩
  · exact ⟨s, if_neg h, by omega, by omega, by omega, by omega, by omega⟩
/-- The bytes that are kept at first. -/
def svB (datas : List ByteArray) (k : Nat) : ByteArray := match datas[k]? with
  | some s => s.extract 0 (if 2000 < s.size then 2000 else s.size)
  | none => ⟨#[]⟩
def listB (f : Nat → ByteArray) : Nat → List UInt8 := fun k => (f k).data.toList
theorem listB_set (f : Nat → ByteArray) (j : Nat) (V : ByteArray) : (listB fun t => if t = j then V else f t) = fun t => if t = j then V.data.toList else listB f t := by
  funext t
  unfold listB
  show (if t = j then V else f t).data.toList = if t = j then V.data.toList else (f t).data.toList
  by_cases h : t = j
  · rw [if_pos h, if_pos h]
  · rw [if_neg h, if_neg h]
theorem FsKeeps_h (datas : List ByteArray) (row : List DeedD) (hrow : ∀ d ∈ row, DeedOk d) : Hv.ACalls Tryd.prog 7 [.sl (datas.map strI), .sl (row.map deedI)] (.lit (.bool true)) := by
  refine acallsC_of (rs := [.tmp 4]) ⟨[0, 1, 4, 5, 6, 7, 8, 9, 10, 11, 12, 13, 14, 15, 16, 17, 18, 19, 21, 27, 36, 82, 85, 93, 108, 109, 117, 120, 135, 138, 152, 163, 169, 181, 189, 193, 199, 209, 236], [33], [], [(12, [(0, [], []), (1, [], []), (2, [], []), (3, [], []), (4, [], []), (5, [], []), (6, [], []), (7, [], []), (8, [], []), (9, [], []), (10, [], []), (11, [], []), (12, [], []), (13, [], []), (14, [], [13, 12, 0, 1, 2, 3, 4, 5, 6, 7, 8, 9, 10, 11])]), (13, [(0, [], []), (1, [], []), (2, [], []), (3, [], []), (4, [], []), (5, [], [0, 4, 3, 1, 2]), (6, [], []), (7, [], []), (8, [], []), (9, [], []), (10, [], []), (11, [], []), (12, [], []), (13, [], []), (14, [], []), (15, [], []), (16, [], []), (17, [11, 12], [16, 7, 15, 6, 5, 13, 14, 0, 4, 3, 1, 2]), (18, [], [8, 12, 17, 7, 11, 16, 6, 5, 9, 10, 15, 0, 4, 13, 14, 3, 1, 2]), (19, [], []), (20, [], []), (21, [], []), (22, [], []), (23, [], []), (24, [], []), (25, [], []), (26, [], []), (27, [], [22, 26, 21, 25, 20, 18, 23, 24, 7, 19, 8, 12, 17, 6, 5, 11, 16, 0, 4, 9, 10, 15, 3, 13, 14, 1, 2]), (28, [], []), (29, [], [])]), (37, [(0, [], []), (1, [], []), (2, [], []), (5, [], []), (6, [], []), (3, [6], [2, 1]), (4, [], []), (7, [], [6, 3, 5, 2, 1]), (8, [], []), (9, [], [0, 4, 8, 7, 3, 6, 2, 5, 1])]), (49, [(0, [], []), (1, [], []), (2, [], []), (3, [], []), (4, [], []), (5, [], []), (6, [], []), (7, [], []), (8, [], []), (9, [], []), (10, [], [0, 4, 9, 3, 8, 1, 2, 7, 5, 6]), (11, [], []), (12, [], []), (13, [], []), (14, [], [12, 10, 0, 1, 2, 3, 4, 5, 6, 7, 8, 9, 11]), (15, [], [13, 14, 0, 1, 2, 3, 4, 5, 6, 7, 8, 9, 10, 11, 12])]), (50, [(0, [], []), (1, [], []), (2, [], []), (3, [], []), (4, [], []), (5, [], []), (6, [], []), (7, [], []), (8, [], []), (9, [], []), (10, [], [])])]⟩ TOk mixed Tryd.func7 rfl rfl (by kernel_rfl) (by kernel_rfl) rfl (by simp [noId_deeds, noId_strs]) (.lit _) ?_
  simp only [push_cast, Nat.reduceBEq, Nat.reduceAdd, Nat.reduceEqDiff, reduceCtorEq, Nat.reduceLeDiff, Nat.reduceSub, Nat.reduceMul, Nat.reduceLT, Int.reduceEq, Int.reduceLT, Int.reduceLE, Int.reduceBEq, Int.reduceBNe, Int.reduceToNat, Int.reduceNeg, Int.reduceSub, Int.reduceAdd]
  refine callH files_c ?_
  rintro _ Ha na ⟨rfl, hna, ka⟩
  simp only [push_cast, Nat.reduceBEq, Nat.reduceAdd, Nat.reduceEqDiff, reduceCtorEq, Nat.reduceLeDiff, Nat.reduceSub, Nat.reduceMul, Nat.reduceLT, Int.reduceEq, Int.reduceLT, Int.reduceLE, Int.reduceBEq, Int.reduceBNe, Int.reduceToNat, Int.reduceNeg, Int.reduceSub, Int.reduceAdd]
  refine callH (new_c (by decide)) ?_
  rintro _ H0 n0 ⟨rfl, S0, h0, hn0, k0⟩
  obtain ⟨n, hn, hn1, hn2, hn3, hn4, hn5⟩ := min_at datas.length 5
  have hn : (if (5 : Int) < (datas.length : Int) then (5 : Int) else (datas.length : Int)) = (n : Int) := hn
  have hnb : 16 * (n : Int) ≤ 140737488355328 := by omega
  have rg5 : ([0, 1, 2, 3, 4] = List.range 5) = True := eq_true rfl
  simp only [push_cast, Nat.reduceBEq, Nat.reduceAdd, Nat.reduceEqDiff, reduceCtorEq, Nat.reduceLeDiff, Nat.reduceSub, Nat.reduceMul, Nat.reduceLT, Int.reduceEq, Int.reduceLT, Int.reduceLE, Int.reduceBEq, Int.reduceBNe, Int.reduceToNat, Int.reduceNeg, Int.reduceSub, Int.reduceAdd, hn, hn3, hn4, hnb, rg5]
  have hL := h0.lt
  refine loopK (fun q s => ∃ (k : Nat) (d : FsD) (H : Hp) (nn : Nat) (S : Nat → Prop), s = ⟨[(0, .sl (datas.map strI)), (1, .sl (row.map deedI)), (5, .ptr (na + 2) 0), (7, .lit (.int .i64 (n : Int))), (8, .rw n0 1 0 5), (9, .rw (n0 + 1) 1 0 n), (10, .lit (.int .i64 (k : Int)))], H, nn⟩ ∧ k ≤ n ∧ q = n - k ∧ FsS H nn S (na + 2) d ∧ KeepS k (listB (svB datas)) d ∧ Own H nn S n0 (.row false 9 (kpsL.map strI)) ∧ Own H nn S (n0 + 1) (.row true 9 ((svL n fun j => if j < k then svB datas j else ⟨#[]⟩).map strI))) _ [0, 1, 5, 7, 8, 9, 10] ⟨0, _, _, _, S0, rfl, Nat.zero_le _, rfl, (h0.new (Nat.le_refl _) (Nat.le_refl _)).new (n' := n0 + 1 + 1) (Nat.le_succ _) (by omega), keep_start, ?_, ?_⟩ ?_
  · exact ⟨(upd_other (by omega)).trans (upd_same _ _ _), by show n0 < n0 + 1 + 1; omega, h0.nu (Nat.le_refl _)⟩
  · refine ⟨(upd_same _ _ _).trans ?_, by show n0 + 1 < n0 + 1 + 1; omega, h0.nu (Nat.le_succ _)⟩
    rw [sv_nil]
    exact congrArg (fun l => some (AO.row true 9 (List.map strI l))) (sv_congr fun k _ => (if_neg (Nat.not_lt_zero k)).symm)
  clear h0 k0 hL
  rintro q _ ⟨k, d, H, nn, S, rfl, hk, rfl, h, hI, b8, b9⟩
  have b8' := b8.at
  have b9' := b9.at
  by_cases hkn : k < n
  · have hkn' : (k : Int) < (n : Int) := by omega
    obtain ⟨x, hx⟩ : ∃ x, datas[k]? = some x := ⟨_, List.getElem?_eq_getElem (by omega)⟩
    have hk5 : k < 5 := by omega
    have hk5' : (k : Int) < 5 := by omega
    have hkd : k < datas.length := by omega
    have hkd' : (k : Int) < (datas.length : Int) := by omega
    have hxk := kps_at hk5
    obtain ⟨m, hm, hm1, hm2, hm3, hm4, hm5⟩ := min_at x.size 2000
    have hm : (if (2000 : Int) < (x.size : Int) then (2000 : Int) else (x.size : Int)) = (m : Int) := hm
    have hsv : x.extract 0 m = svB datas k := by
      unfold svB
      rw [hx]
      show _ = x.extract 0 (if 2000 < x.size then 2000 else x.size)
      have : m = if 2000 < x.size then 2000 else x.size := by
        by_cases hc : 2000 < x.size
        · rw [if_pos hc]; rw [if_pos (by omega)] at hm; omega
        · rw [if_neg hc]; rw [if_neg (by omega)] at hm; omega
      rw [this]
    have hs1 : (svL n fun j => if j < k then svB datas j else ⟨#[]⟩)[k]? = some ⟨#[]⟩ := by rw [sv_at _ hkn, if_neg (Nat.lt_irrefl k)]
    have hset : ((svL n fun j => if j < k then svB datas j else ⟨#[]⟩).map strI).set k [.lit (.string (svB datas k))] = (svL n fun j => if j < k + 1 then svB datas j else ⟨#[]⟩).map strI := by
      rw [sv_set]
      exact congrArg (List.map strI) (sv_congr fun j _ => by
        by_cases hj : j = k
        · subst hj; rw [if_pos rfl, if_pos (Nat.lt_succ_self j)]
        · rw [if_neg hj]
          by_cases hjk : j < k
          · rw [if_pos hjk, if_pos (by omega)]
          · rw [if_neg hjk, if_neg (by omega)])
    have hs2 : (svL n fun j => if j < k + 1 then svB datas j else ⟨#[]⟩)[k]? = some (svB datas k) := by rw [sv_at _ hkn, if_pos (Nat.lt_succ_self k)]
    have hw := wrap_nat0 (k := k) (by omega)
    have e10 : (n0 + 1 == n0) = false := nb (by omega)
    have hsl : (listB (svB datas) k).length ≤ 2000 := by
      show (svB datas k).size ≤ 2000
      rw [← hsv, ByteArray.size_extract]; omega
    have hsl' : (svB datas k).size ≤ 2000 := hsl
    have hsz : (svB datas k).size.ble 140737488355328 = true := by rw [Nat.ble_eq]; omega
    simp only [push_cast, Nat.reduceBEq, Nat.reduceAdd, Nat.reduceEqDiff, reduceCtorEq, Nat.reduceLeDiff, Nat.reduceSub, Nat.reduceMul, Nat.reduceLT, Int.reduceEq, Int.reduceLT, Int.reduceLE, Int.reduceBEq, Int.reduceBNe, Int.reduceToNat, Int.reduceNeg, Int.reduceSub, Int.reduceAdd, hkn, hkn', hkd, hkd', hx, hm, hm3, hm4, hm5, hsv, b9', sv_ble, sv_take, strI, strA, hs1, hset, e10, b8', kps_ble, kps_take, hxk, hk5, hk5']
    have bb8 := b8.other (m := n0 + 1) (o' := some (.row true 9 ((svL n fun j => if j < k + 1 then svB datas j else ⟨#[]⟩).map strI))) (by omega)
    have bb9 := b9.put (o' := .row true 9 ((svL n fun j => if j < k + 1 then svB datas j else ⟨#[]⟩).map strI))
    have h' := h.u (m := n0 + 1) (o := some (.row true 9 ((svL n fun j => if j < k + 1 then svB datas j else ⟨#[]⟩).map strI))) b9.2.2
    obtain ⟨c1, c2, c3, c4⟩ := hI.step hk5 hsl
    refine callHD (create_c h' (by rw [hI.wait]; omega) (kpN k)) ?_
    rintro _ H1 n1 ⟨rfl, S1, h1, hn1, k1⟩
    replace bb8 := bb8.keep hn1 k1
    replace bb9 := bb9.keep hn1 k1
    have b8' := bb8.at
    have b9' := bb9.at
    have e1 : (n1 == n0) = false := nb (by have := bb8.2.1; omega)
    have e2 : (n1 == n0 + 1) = false := nb (by have := bb9.2.1; omega)
    simp only [push_cast, Nat.reduceBEq, Nat.reduceAdd, Nat.reduceEqDiff, reduceCtorEq, Nat.reduceLeDiff, Nat.reduceSub, Nat.reduceMul, Nat.reduceLT, Int.reduceEq, Int.reduceLT, Int.reduceLE, Int.reduceBEq, Int.reduceBNe, Int.reduceToNat, Int.reduceNeg, Int.reduceSub, Int.reduceAdd, c1, hkn, hkn', b8', b9', sv_ble, sv_take, strI, strA, hs2, e1, e2, e10, kps_ble, kps_take, hxk, hk5, hk5', hsz]
    refine callHD (append_s h1 (kpN k) (svB datas k) (by omega)) ?_
    rintro _ H2 n2 ⟨rfl, S2, h2, hn2, k2⟩
    replace bb8 := (bb8.new (Nat.le_refl _) (Nat.le_succ _)).keep hn2 k2
    replace bb9 := (bb9.new (Nat.le_refl _) (Nat.le_succ _)).keep hn2 k2
    have b8' := bb8.at
    have b9' := bb9.at
    have c2 : (((d.create (kpN k)).1.append (kpN k) (svB datas k).data.toList)).2 = 0 := c2
    simp only [push_cast, Nat.reduceBEq, Nat.reduceAdd, Nat.reduceEqDiff, reduceCtorEq, Nat.reduceLeDiff, Nat.reduceSub, Nat.reduceMul, Nat.reduceLT, Int.reduceEq, Int.reduceLT, Int.reduceLE, Int.reduceBEq, Int.reduceBNe, Int.reduceToNat, Int.reduceNeg, Int.reduceSub, Int.reduceAdd, c2, hkn, hkn', b8', b9', sv_ble, sv_take, strI, strA, hs2, e10, kps_ble, kps_take, hxk, hk5, hk5']
    refine callHD (sync_c h2 (kpN k)) ?_
    rintro _ H3 n3 ⟨rfl, S3, h3, hn3, k3⟩
    replace bb8 := bb8.keep hn3 k3
    replace bb9 := bb9.keep hn3 k3
    have c3 : ((((d.create (kpN k)).1.append (kpN k) (svB datas k).data.toList)).1.sync (kpN k)).2 = 0 := c3
    simp only [push_cast, Nat.reduceBEq, Nat.reduceAdd, Nat.reduceEqDiff, reduceCtorEq, Nat.reduceLeDiff, Nat.reduceSub, Nat.reduceMul, Nat.reduceLT, Int.reduceEq, Int.reduceLT, Int.reduceLE, Int.reduceBEq, Int.reduceBNe, Int.reduceToNat, Int.reduceNeg, Int.reduceSub, Int.reduceAdd, c3, hw]
    exact ⟨_, by omega, k + 1, _, _, _, S3, rfl, by omega, rfl, h3, c4, bb8, bb9⟩
  · obtain rfl : k = n := by omega
    obtain ⟨c1, c2, c3⟩ := hI.done
    have b9 : Own H nn S (n0 + 1) (.row true 9 ((svL k (svB datas)).map strI)) := by
      rw [sv_congr (g := svB datas) fun j hj => if_pos hj] at b9; exact b9
    simp only [push_cast, Nat.reduceBEq, Nat.reduceAdd, Nat.reduceEqDiff, reduceCtorEq, Nat.reduceLeDiff, Nat.reduceSub, Nat.reduceMul, Nat.reduceLT, Int.reduceEq, Int.reduceLT, Int.reduceLE, Int.reduceBEq, Int.reduceBNe, Int.reduceToNat, Int.reduceNeg, Int.reduceSub, Int.reduceAdd, hkn]
    refine callH (syncDir_c h) ?_
    rintro _ H1 n1 ⟨rfl, S1, h1, hn1, k1⟩
    replace b8 := b8.keep hn1 k1
    replace b9 := b9.keep hn1 k1
    obtain ⟨d1, hd1⟩ : ∃ d1, d.syncDir.1 = d1 := ⟨_, rfl⟩
    rw [hd1] at h1 c2 c3
    simp only [push_cast, Nat.reduceBEq, Nat.reduceAdd, Nat.reduceEqDiff, reduceCtorEq, Nat.reduceLeDiff, Nat.reduceSub, Nat.reduceMul, Nat.reduceLT, Int.reduceEq, Int.reduceLT, Int.reduceLE, Int.reduceBEq, Int.reduceBNe, Int.reduceToNat, Int.reduceNeg, Int.reduceSub, Int.reduceAdd, c1]
    clear b8' b9' h k1 hn1 hI
    have hsb : ∀ j, j < k → (svB datas j).size ≤ 1048576 := fun j hj => by
      unfold svB
      cases hx : datas[j]? with
      | none => exact Nat.zero_le _
      | some s =>
        show (s.extract 0 (if 2000 < s.size then 2000 else s.size)).size ≤ _
        rw [ByteArray.size_extract]; split <;> omega
    refine loopK (fun q s => ∃ (i : Nat) (f : Nat → ByteArray) (d : FsD) (H : Hp) (nn : Nat) (S : Nat → Prop), s = ⟨[(1, .sl (row.map deedI)), (5, .ptr (na + 2) 0), (7, .lit (.int .i64 (k : Int))), (8, .rw n0 1 0 5), (9, .rw (n0 + 1) 1 0 k), (11, .lit (.int .i64 (i : Int)))], H, nn⟩ ∧ i ≤ row.length ∧ i ≤ 70 ∧ q = row.length - i ∧ FsS H nn S (na + 2) d ∧ KeepF k (listB f) d ∧ (∀ j, j < k → (f j).size ≤ 1048576) ∧ d.wait.length ≤ i ∧ Own H nn S n0 (.row false 9 (kpsL.map strI)) ∧ Own H nn S (n0 + 1) (.row true 9 ((svL k f).map strI))) _ [1, 5, 7, 8, 9, 11] ⟨0, svB datas, d1, H1, n1, S1, rfl, Nat.zero_le _, Nat.zero_le _, rfl, h1, c2, hsb, by rw [c3]; exact Nat.le_refl _, b8, b9⟩ ?_
    clear h1 c2 hsb b8 b9 c3 hd1
    rintro q _ ⟨i, f, d, H, nn, S, rfl, hil, hi70, rfl, h, hI, hsb, hwt, b8, b9⟩
    have b8' := b8.at
    have b9' := b9.at
    by_cases hir : i < row.length
    · by_cases hi' : (i : Int) < 70
      · obtain ⟨x, hx⟩ : ∃ x, row[i]? = some x := ⟨_, List.getElem?_eq_getElem hir⟩
        obtain ⟨ok1, ⟨ok2, ok3⟩, ⟨ok4, ok5⟩, ok6, ok7, ok8⟩ := hrow x (List.mem_of_getElem? hx)
        obtain ⟨call, name, dst, a, b, data, picks⟩ := x
        dsimp only at ok1 ok2 ok3 ok4 ok5 ok6 ok7 ok8
        have hw := wrap_nat0 (k := i) (by omega)
        obtain ⟨m, hm, hm1, hm2, hm3, hm4, hm5⟩ := min_at data.size 200
        have hm : (if (200 : Int) < (data.size : Int) then (200 : Int) else (data.size : Int)) = (m : Int) := hm
        obtain ⟨ex, hex⟩ : ∃ ex, data.extract 0 m = ex := ⟨_, rfl⟩
        have hexs : ex.size ≤ 200 := by rw [← hex, ByteArray.size_extract]; omega
        have hkp : ∀ j, j < k → j < 5 := fun j hj => by omega
        have hh : FsS (upd (upd H nn (some (.cells [.lit (.int .i64 0), .lit (.string ⟨#[]⟩), .lit (.string ⟨#[]⟩), .lit (.int .i64 0), .lit (.int .i64 0), .lit (.string ⟨#[]⟩), .lit (.slice none 0 0)]))) nn (some (.cells [.lit (.int .i64 call), .lit (.string name), .lit (.string dst), .lit (.int .i64 a), .lit (.int .i64 b), .lit (.string data), .sl (picks.map intI)]))) (nn + 1) S (na + 2) d := ((h.u (h.nu (Nat.le_refl _))).u (h.nu (Nat.le_refl _))).up (Nat.le_succ _)
        have bb8 := (b8.new (m := nn) (n' := nn + 1) (o' := some (.cells [.lit (.int .i64 0), .lit (.string ⟨#[]⟩), .lit (.string ⟨#[]⟩), .lit (.int .i64 0), .lit (.int .i64 0), .lit (.string ⟨#[]⟩), .lit (.slice none 0 0)])) (Nat.le_refl _) (Nat.le_succ _)).other (m := nn) (o' := some (.cells [.lit (.int .i64 call), .lit (.string name), .lit (.string dst), .lit (.int .i64 a), .lit (.int .i64 b), .lit (.string data), .sl (picks.map intI)])) (by have := b8.2.1; omega)
        have bb9 := (b9.new (m := nn) (n' := nn + 1) (o' := some (.cells [.lit (.int .i64 0), .lit (.string ⟨#[]⟩), .lit (.string ⟨#[]⟩), .lit (.int .i64 0), .lit (.int .i64 0), .lit (.string ⟨#[]⟩), .lit (.slice none 0 0)])) (Nat.le_refl _) (Nat.le_succ _)).other (m := nn) (o' := some (.cells [.lit (.int .i64 call), .lit (.string name), .lit (.string dst), .lit (.int .i64 a), .lit (.int .i64 b), .lit (.string data), .sl (picks.map intI)])) (by have := b9.2.1; omega)
        have bd : Own (upd (upd H nn (some (.cells [.lit (.int .i64 0), .lit (.string ⟨#[]⟩), .lit (.string ⟨#[]⟩), .lit (.int .i64 0), .lit (.int .i64 0), .lit (.string ⟨#[]⟩), .lit (.slice none 0 0)]))) nn (some (.cells [.lit (.int .i64 call), .lit (.string name), .lit (.string dst), .lit (.int .i64 a), .lit (.int .i64 b), .lit (.string data), .sl (picks.map intI)]))) (nn + 1) S nn (.cells [.lit (.int .i64 call), .lit (.string name), .lit (.string dst), .lit (.int .i64 a), .lit (.int .i64 b), .lit (.string data), .sl (picks.map intI)]) := ⟨upd_same _ _ _, Nat.lt_succ_self _, h.nu (Nat.le_refl _)⟩
        have hlt8 : n0 < nn := b8.2.1
        have hlt9 : n0 + 1 < nn := b9.2.1
        have e8 : (nn == n0) = false := nb (by omega)
        have e9 : (nn == n0 + 1) = false := nb (by omega)
        clear h b8 b9
        by_cases c1 : call = 1
        · subst c1
          simp only [push_cast, Nat.reduceBEq, Nat.reduceAdd, Nat.reduceEqDiff, reduceCtorEq, Nat.reduceLeDiff, Nat.reduceSub, Nat.reduceMul, Nat.reduceLT, Int.reduceEq, Int.reduceLT, Int.reduceLE, Int.reduceBEq, Int.reduceBNe, Int.reduceToNat, Int.reduceNeg, Int.reduceSub, Int.reduceAdd, hir, hi', hx, deedI, hm, hm3, hm4, hm5, hex]
          refine callH (low_h name (by omega)) ?_
          rintro _ L1 m1 ⟨L, rfl, hL, hn1, k1⟩
          have hh := hh.same hn1 k1
          have bb8 := bb8.same hn1 k1
          have bb9 := bb9.same hn1 k1
          have hov : (9223372036854775807 < (⟨#[110, 101, 119, 45]⟩ : ByteArray).size + L.size) = False := eq_false (by show ¬ 9223372036854775807 < 4 + L.size; omega)
          have hov' : (9223372036854775807 < 4 + L.size) = False := eq_false (by omega)
          simp only [push_cast, Nat.reduceBEq, Nat.reduceAdd, Nat.reduceEqDiff, reduceCtorEq, Nat.reduceLeDiff, Nat.reduceSub, Nat.reduceMul, Nat.reduceLT, Int.reduceEq, Int.reduceLT, Int.reduceLE, Int.reduceBEq, Int.reduceBNe, Int.reduceToNat, Int.reduceNeg, Int.reduceSub, Int.reduceAdd, hov, hov']
          refine callH (create_c hh (by omega) (newS ++ L)) ?_
          rintro _ H2 n2 ⟨rfl, S2, h2, hn2', k2'⟩
          have bb8 := bb8.keep hn2' k2'
          have bb9 := bb9.keep hn2' k2'
          simp only [push_cast, Nat.reduceBEq, Nat.reduceAdd, Nat.reduceEqDiff, reduceCtorEq, Nat.reduceLeDiff, Nat.reduceSub, Nat.reduceMul, Nat.reduceLT, Int.reduceEq, Int.reduceLT, Int.reduceLE, Int.reduceBEq, Int.reduceBNe, Int.reduceToNat, Int.reduceNeg, Int.reduceSub, Int.reduceAdd, hw]
          have hwx := create_wait d (newS ++ L)
          exact ⟨_, by omega, i + 1, f, _, _, _, S2, rfl, by omega, by omega, rfl, h2, hI.create hh.ok fun j _ => newS_ne L j, hsb, by omega, bb8, bb9⟩
        by_cases c2 : call = 2
        · subst c2
          by_cases hk0 : 0 < k
          · have hk0' : (k : Int) > 0 := by omega
            obtain ⟨j, hj, hj1, hj2⟩ := u64_mod a (K := k) hk0 (by omega)
            have hku := u64_len (n := k) (by omega)
            have hkz : ((k : Int) = 0) = False := eq_false (by omega)
            have hj5 := hkp j hj
            have hj5' : (j : Int) < 5 := by omega
            have hxk := kps_at hj5
            have hez : ex.size.ble 140737488355328 = true := by rw [Nat.ble_eq]; omega
            simp only [push_cast, Nat.reduceBEq, Nat.reduceAdd, Nat.reduceEqDiff, reduceCtorEq, Nat.reduceLeDiff, Nat.reduceSub, Nat.reduceMul, Nat.reduceLT, Int.reduceEq, Int.reduceLT, Int.reduceLE, Int.reduceBEq, Int.reduceBNe, Int.reduceToNat, Int.reduceNeg, Int.reduceSub, Int.reduceAdd, hir, hi', hx, deedI, hm, hm3, hm4, hm5, hex, hk0', hku, hkz, hj1, hj2, hj5, hj5', hxk, b8', e8, kps_ble, kps_take, strI, strA, hez]
            refine callH (append_s hh (kpN j) ex (by omega)) ?_
            rintro _ H2 n2 ⟨rfl, S2, h2, hn2', k2'⟩
            have bb8 := (bb8.new (Nat.le_refl _) (Nat.le_succ _)).keep hn2' k2'
            have bb9 := (bb9.new (Nat.le_refl _) (Nat.le_succ _)).keep hn2' k2'
            simp only [push_cast, Nat.reduceBEq, Nat.reduceAdd, Nat.reduceEqDiff, reduceCtorEq, Nat.reduceLeDiff, Nat.reduceSub, Nat.reduceMul, Nat.reduceLT, Int.reduceEq, Int.reduceLT, Int.reduceLE, Int.reduceBEq, Int.reduceBNe, Int.reduceToNat, Int.reduceNeg, Int.reduceSub, Int.reduceAdd, hw]
            have hwx := append_wait d (kpN j) ex.data.toList
            exact ⟨_, by omega, i + 1, f, _, _, _, S2, rfl, by omega, by omega, rfl, h2, hI.append _ _, hsb, by omega, bb8, bb9⟩
          · have hk0' : ¬ (k : Int) > 0 := by omega
            simp only [push_cast, Nat.reduceBEq, Nat.reduceAdd, Nat.reduceEqDiff, reduceCtorEq, Nat.reduceLeDiff, Nat.reduceSub, Nat.reduceMul, Nat.reduceLT, Int.reduceEq, Int.reduceLT, Int.reduceLE, Int.reduceBEq, Int.reduceBNe, Int.reduceToNat, Int.reduceNeg, Int.reduceSub, Int.reduceAdd, hir, hi', hx, deedI, hm, hm3, hm4, hm5, hex, hk0', hw]
            exact ⟨_, by omega, i + 1, f, _, _, _, S, rfl, by omega, by omega, rfl, hh, hI, hsb, by omega, bb8, bb9⟩
        by_cases c5 : call = 5
        · subst c5
          by_cases hk0 : 0 < k
          · have hk0' : (k : Int) > 0 := by omega
            obtain ⟨j, hj, hj1, hj2⟩ := u64_mod a (K := k) hk0 (by omega)
            have hku := u64_len (n := k) (by omega)
            have hkz : ((k : Int) = 0) = False := eq_false (by omega)
            have hj5 := hkp j hj
            have hj5' : (j : Int) < 5 := by omega
            have hj' : (j : Int) < (k : Int) := by omega
            have hxk := kps_at hj5
            have hsx := sv_at f hj
            simp only [push_cast, Nat.reduceBEq, Nat.reduceAdd, Nat.reduceEqDiff, reduceCtorEq, Nat.reduceLeDiff, Nat.reduceSub, Nat.reduceMul, Nat.reduceLT, Int.reduceEq, Int.reduceLT, Int.reduceLE, Int.reduceBEq, Int.reduceBNe, Int.reduceToNat, Int.reduceNeg, Int.reduceSub, Int.reduceAdd, hir, hi', hx, deedI, hm, hm3, hm4, hm5, hex, hk0', hku, hkz, hj1, hj2, hj5, hj5', hxk, b8', e8, kps_ble, kps_take, strI, strA]
            refine callH (sync_c hh (kpN j)) ?_
            rintro _ H2 n2 ⟨rfl, S2, h2, hn2', k2'⟩
            have bb8 := bb8.keep hn2' k2'
            have bb9 := bb9.keep hn2' k2'
            have b82 := bb8.at
            have hwx := sync_wait d (kpN j)
            by_cases he : (d.sync (kpN j)).2 = 0
            · obtain ⟨bs, r1, r2, r3⟩ := hI.resync hh.ok hj he
              simp only [push_cast, Nat.reduceBEq, Nat.reduceAdd, Nat.reduceEqDiff, reduceCtorEq, Nat.reduceLeDiff, Nat.reduceSub, Nat.reduceMul, Nat.reduceLT, Int.reduceEq, Int.reduceLT, Int.reduceLE, Int.reduceBEq, Int.reduceBNe, Int.reduceToNat, Int.reduceNeg, Int.reduceSub, Int.reduceAdd, he, hj5, hj5', hxk, b82, kps_ble, kps_take, strI, strA]
              refine callH (read_c h2 (kpN j) 0 1048576 (by decide)) ?_
              rintro _ H3 n3 h9
              rw [r1] at h9
              obtain ⟨hn9, hk9, res, rfl, ⟨rfl, hb0⟩ | ⟨g, gm, rfl, hg1, hg2, hg, hgm⟩⟩ := h9
              · have bb8 := bb8.same hn9 hk9
                have bb9 := bb9.same hn9 hk9
                have b93 := bb9.at
                have hset := sv_set (n := k) (k := j) f ⟨#[]⟩
                have hfs : ∀ t, t < k → ((fun t => if t = j then (⟨#[]⟩ : ByteArray) else f t) t).size ≤ 1048576 := fun t ht => by
                  show (if t = j then (⟨#[]⟩ : ByteArray) else f t).size ≤ _
                  split
                  · exact Nat.zero_le _
                  · exact hsb t ht
                have r4 : KeepF k (listB fun t => if t = j then (⟨#[]⟩ : ByteArray) else f t) (d.sync (kpN j)).1 := by
                  rw [listB_set]
                  rw [show bs = (⟨#[]⟩ : ByteArray).data.toList from hb0] at r3; exact r3
                simp only [push_cast, Nat.reduceBEq, Nat.reduceAdd, Nat.reduceEqDiff, reduceCtorEq, Nat.reduceLeDiff, Nat.reduceSub, Nat.reduceMul, Nat.reduceLT, Int.reduceEq, Int.reduceLT, Int.reduceLE, Int.reduceBEq, Int.reduceBNe, Int.reduceToNat, Int.reduceNeg, Int.reduceSub, Int.reduceAdd, bytesOf_nil, strOf_nil, b93, hj, hj', sv_ble, sv_take, hsx, hset, strI, strA, hw]
                exact ⟨_, by omega, i + 1, _, _, _, _, S2, rfl, by omega, by omega, rfl, (h2.same hn9 hk9).u bb9.2.2, r4, hfs, by omega, bb8.other (by omega), bb9.put⟩
              · have bb8 := bb8.same hn9 hk9
                have bb9 := bb9.same hn9 hk9
                have b93 := bb9.at
                have hset := sv_set (n := k) (k := j) f ⟨bs.toArray⟩
                have hfs : ∀ t, t < k → ((fun t => if t = j then (⟨bs.toArray⟩ : ByteArray) else f t) t).size ≤ 1048576 := fun t ht => by
                  show (if t = j then (⟨bs.toArray⟩ : ByteArray) else f t).size ≤ _
                  split
                  · exact r2
                  · exact hsb t ht
                have r4 : KeepF k (listB fun t => if t = j then (⟨bs.toArray⟩ : ByteArray) else f t) (d.sync (kpN j)).1 := by
                  rw [listB_set]; exact r3
                have hq2 : Nat.ble bs.length (byL bs).length = true := by rw [Nat.ble_eq, byL_len]; exact Nat.le_refl _
                have hq3 : (byL bs).take bs.length = byL bs := List.take_of_length_le (Nat.le_of_eq (byL_len _))
                cases gm
                · simp only [push_cast, Nat.reduceBEq, Nat.reduceAdd, Nat.reduceEqDiff, reduceCtorEq, Nat.reduceLeDiff, Nat.reduceSub, Nat.reduceMul, Nat.reduceLT, Int.reduceEq, Int.reduceLT, Int.reduceLE, Int.reduceBEq, Int.reduceBNe, Int.reduceToNat, Int.reduceNeg, Int.reduceSub, Int.reduceAdd, hg, hq2, hq3, bytesOf_byL, strOf_byL, b93, hj, hj', sv_ble, sv_take, hsx, hset, strI, strA, hw]
                  exact ⟨_, by omega, i + 1, _, _, _, _, S2, rfl, by omega, by omega, rfl, (h2.same hn9 hk9).u bb9.2.2, r4, hfs, by omega, bb8.other (by omega), bb9.put⟩
                · simp only [push_cast, Nat.reduceBEq, Nat.reduceAdd, Nat.reduceEqDiff, reduceCtorEq, Nat.reduceLeDiff, Nat.reduceSub, Nat.reduceMul, Nat.reduceLT, Int.reduceEq, Int.reduceLT, Int.reduceLE, Int.reduceBEq, Int.reduceBNe, Int.reduceToNat, Int.reduceNeg, Int.reduceSub, Int.reduceAdd, hg, hq2, hq3, bytesOf_byL, strOf_byL, b93, hj, hj', sv_ble, sv_take, hsx, hset, strI, strA, hw]
                  exact ⟨_, by omega, i + 1, _, _, _, _, S2, rfl, by omega, by omega, rfl, (h2.same hn9 hk9).u bb9.2.2, r4, hfs, by omega, bb8.other (by omega), bb9.put⟩
            · have hne : ((d.sync (kpN j)).2 == 0) = false := beq_eq_false_iff_ne.2 he
              simp only [push_cast, Nat.reduceBEq, Nat.reduceAdd, Nat.reduceEqDiff, reduceCtorEq, Nat.reduceLeDiff, Nat.reduceSub, Nat.reduceMul, Nat.reduceLT, Int.reduceEq, Int.reduceLT, Int.reduceLE, Int.reduceBEq, Int.reduceBNe, Int.reduceToNat, Int.reduceNeg, Int.reduceSub, Int.reduceAdd, hne, hw]
              exact ⟨_, by omega, i + 1, f, _, _, _, S2, rfl, by omega, by omega, rfl, h2, hI.sync _, hsb, by omega, bb8, bb9⟩
          · have hk0' : ¬ (k : Int) > 0 := by omega
            simp only [push_cast, Nat.reduceBEq, Nat.reduceAdd, Nat.reduceEqDiff, reduceCtorEq, Nat.reduceLeDiff, Nat.reduceSub, Nat.reduceMul, Nat.reduceLT, Int.reduceEq, Int.reduceLT, Int.reduceLE, Int.reduceBEq, Int.reduceBNe, Int.reduceToNat, Int.reduceNeg, Int.reduceSub, Int.reduceAdd, hir, hi', hx, deedI, hm, hm3, hm4, hm5, hex, hk0', hw]
            exact ⟨_, by omega, i + 1, f, _, _, _, S, rfl, by omega, by omega, rfl, hh, hI, hsb, by omega, bb8, bb9⟩
        by_cases c6 : call = 6
        · subst c6
          simp only [push_cast, Nat.reduceBEq, Nat.reduceAdd, Nat.reduceEqDiff, reduceCtorEq, Nat.reduceLeDiff, Nat.reduceSub, Nat.reduceMul, Nat.reduceLT, Int.reduceEq, Int.reduceLT, Int.reduceLE, Int.reduceBEq, Int.reduceBNe, Int.reduceToNat, Int.reduceNeg, Int.reduceSub, Int.reduceAdd, hir, hi', hx, deedI, hm, hm3, hm4, hm5, hex]
          refine callHD (low_h name (by omega)) ?_
          rintro _ L1 m1 ⟨LA, rfl, hLA, hn1, k1⟩
          have hh := hh.same hn1 k1
          have bb8 := bb8.same hn1 k1
          have bb9 := bb9.same hn1 k1
          have bd := bd.same hn1 k1
          have bd' := bd.at
          have hov : (9223372036854775807 < (⟨#[110, 101, 119, 45]⟩ : ByteArray).size + LA.size) = False := eq_false (by show ¬ 9223372036854775807 < 4 + LA.size; omega)
          have hov' : (9223372036854775807 < 4 + LA.size) = False := eq_false (by omega)
          simp only [push_cast, Nat.reduceBEq, Nat.reduceAdd, Nat.reduceEqDiff, reduceCtorEq, Nat.reduceLeDiff, Nat.reduceSub, Nat.reduceMul, Nat.reduceLT, Int.reduceEq, Int.reduceLT, Int.reduceLE, Int.reduceBEq, Int.reduceBNe, Int.reduceToNat, Int.reduceNeg, Int.reduceSub, Int.reduceAdd, hov, hov', bd']
          refine callHD (low_h dst (by omega)) ?_
          rintro _ L2 m2 ⟨LB, rfl, hLB, hn2, k2⟩
          have hh := hh.same hn2 k2
          have bb8 := bb8.same hn2 k2
          have bb9 := bb9.same hn2 k2
          have bd := bd.same hn2 k2
          have bd' := bd.at
          have hpv : (9223372036854775807 < (⟨#[110, 101, 119, 45]⟩ : ByteArray).size + LB.size) = False := eq_false (by show ¬ 9223372036854775807 < 4 + LB.size; omega)
          have hpv' : (9223372036854775807 < 4 + LB.size) = False := eq_false (by omega)
          simp only [push_cast, Nat.reduceBEq, Nat.reduceAdd, Nat.reduceEqDiff, reduceCtorEq, Nat.reduceLeDiff, Nat.reduceSub, Nat.reduceMul, Nat.reduceLT, Int.reduceEq, Int.reduceLT, Int.reduceLE, Int.reduceBEq, Int.reduceBNe, Int.reduceToNat, Int.reduceNeg, Int.reduceSub, Int.reduceAdd, hov, hov', hpv, hpv', bd']
          refine callHD (rename_c hh (by omega) (newS ++ LA) (newS ++ LB)) ?_
          rintro _ H2 n2 ⟨rfl, S2, h2, hn2', k2'⟩
          have bb8 := bb8.keep hn2' k2'
          have bb9 := bb9.keep hn2' k2'
          have hwx := rename_wait d (newS ++ LA) (newS ++ LB)
          simp only [push_cast, Nat.reduceBEq, Nat.reduceAdd, Nat.reduceEqDiff, reduceCtorEq, Nat.reduceLeDiff, Nat.reduceSub, Nat.reduceMul, Nat.reduceLT, Int.reduceEq, Int.reduceLT, Int.reduceLE, Int.reduceBEq, Int.reduceBNe, Int.reduceToNat, Int.reduceNeg, Int.reduceSub, Int.reduceAdd, hw]
          exact ⟨_, by omega, i + 1, f, _, _, _, S2, rfl, by omega, by omega, rfl, h2, hI.rename hh.ok (fun j _ => newS_ne LA j) (fun j _ => newS_ne LB j), hsb, by omega, bb8, bb9⟩
        by_cases c7 : call = 7
        · subst c7
          simp only [push_cast, Nat.reduceBEq, Nat.reduceAdd, Nat.reduceEqDiff, reduceCtorEq, Nat.reduceLeDiff, Nat.reduceSub, Nat.reduceMul, Nat.reduceLT, Int.reduceEq, Int.reduceLT, Int.reduceLE, Int.reduceBEq, Int.reduceBNe, Int.reduceToNat, Int.reduceNeg, Int.reduceSub, Int.reduceAdd, hir, hi', hx, deedI, hm, hm3, hm4, hm5, hex]
          refine callH (low_h name (by omega)) ?_
          rintro _ L1 m1 ⟨L, rfl, hL, hn1, k1⟩
          have hh := hh.same hn1 k1
          have bb8 := bb8.same hn1 k1
          have bb9 := bb9.same hn1 k1
          have hov : (9223372036854775807 < (⟨#[110, 101, 119, 45]⟩ : ByteArray).size + L.size) = False := eq_false (by show ¬ 9223372036854775807 < 4 + L.size; omega)
          have hov' : (9223372036854775807 < 4 + L.size) = False := eq_false (by omega)
          simp only [push_cast, Nat.reduceBEq, Nat.reduceAdd, Nat.reduceEqDiff, reduceCtorEq, Nat.reduceLeDiff, Nat.reduceSub, Nat.reduceMul, Nat.reduceLT, Int.reduceEq, Int.reduceLT, Int.reduceLE, Int.reduceBEq, Int.reduceBNe, Int.reduceToNat, Int.reduceNeg, Int.reduceSub, Int.reduceAdd, hov, hov']
          refine callH (remove_c hh (by omega) (newS ++ L)) ?_
          rintro _ H2 n2 ⟨rfl, S2, h2, hn2', k2'⟩
          have bb8 := bb8.keep hn2' k2'
          have bb9 := bb9.keep hn2' k2'
          simp only [push_cast, Nat.reduceBEq, Nat.reduceAdd, Nat.reduceEqDiff, reduceCtorEq, Nat.reduceLeDiff, Nat.reduceSub, Nat.reduceMul, Nat.reduceLT, Int.reduceEq, Int.reduceLT, Int.reduceLE, Int.reduceBEq, Int.reduceBNe, Int.reduceToNat, Int.reduceNeg, Int.reduceSub, Int.reduceAdd, hw]
          have hwx := remove_wait d (newS ++ L)
          exact ⟨_, by omega, i + 1, f, _, _, _, S2, rfl, by omega, by omega, rfl, h2, hI.remove hh.ok fun j _ => newS_ne L j, hsb, by omega, bb8, bb9⟩
        by_cases c8 : call = 8
        · subst c8
          simp only [push_cast, Nat.reduceBEq, Nat.reduceAdd, Nat.reduceEqDiff, reduceCtorEq, Nat.reduceLeDiff, Nat.reduceSub, Nat.reduceMul, Nat.reduceLT, Int.reduceEq, Int.reduceLT, Int.reduceLE, Int.reduceBEq, Int.reduceBNe, Int.reduceToNat, Int.reduceNeg, Int.reduceSub, Int.reduceAdd, hir, hi', hx, deedI, hm, hm3, hm4, hm5, hex]
          refine callH (syncDir_c hh) ?_
          rintro _ H2 n2 ⟨rfl, S2, h2, hn2', k2'⟩
          have bb8 := bb8.keep hn2' k2'
          have bb9 := bb9.keep hn2' k2'
          simp only [push_cast, Nat.reduceBEq, Nat.reduceAdd, Nat.reduceEqDiff, reduceCtorEq, Nat.reduceLeDiff, Nat.reduceSub, Nat.reduceMul, Nat.reduceLT, Int.reduceEq, Int.reduceLT, Int.reduceLE, Int.reduceBEq, Int.reduceBNe, Int.reduceToNat, Int.reduceNeg, Int.reduceSub, Int.reduceAdd, hw]
          have hwx := syncDir_wait d
          exact ⟨_, by omega, i + 1, f, _, _, _, S2, rfl, by omega, by omega, rfl, h2, hI.syncDir, hsb, by omega, bb8, bb9⟩
        by_cases c9 : call = 9
        · subst c9
          simp only [push_cast, Nat.reduceBEq, Nat.reduceAdd, Nat.reduceEqDiff, reduceCtorEq, Nat.reduceLeDiff, Nat.reduceSub, Nat.reduceMul, Nat.reduceLT, Int.reduceEq, Int.reduceLT, Int.reduceLE, Int.reduceBEq, Int.reduceBNe, Int.reduceToNat, Int.reduceNeg, Int.reduceSub, Int.reduceAdd, hir, hi', hx, deedI, hm, hm3, hm4, hm5, hex]
          refine callH (arm_c hh (by omega)) ?_
          rintro _ H2 n2 ⟨rfl, S2, h2, hn2', k2'⟩
          have bb8 := bb8.keep hn2' k2'
          have bb9 := bb9.keep hn2' k2'
          simp only [push_cast, Nat.reduceBEq, Nat.reduceAdd, Nat.reduceEqDiff, reduceCtorEq, Nat.reduceLeDiff, Nat.reduceSub, Nat.reduceMul, Nat.reduceLT, Int.reduceEq, Int.reduceLT, Int.reduceLE, Int.reduceBEq, Int.reduceBNe, Int.reduceToNat, Int.reduceNeg, Int.reduceSub, Int.reduceAdd, hw]
          exact ⟨_, by omega, i + 1, f, _, _, _, S2, rfl, by omega, by omega, rfl, h2, hI.arm a, hsb, by show d.wait.length ≤ _; omega, bb8, bb9⟩
        by_cases c10 : call = 10
        · subst c10
          have hpi : (∀ it ∈ picks.map intI, it.length = 1) = True := eq_true fun it hit => by obtain ⟨z, _, rfl⟩ := List.mem_map.1 hit; rfl
          have hpj : (∀ it ∈ picks.map intI, it.length = 1 ∧ it.all AV.isOne = true) = True := eq_true fun it hit => by obtain ⟨z, _, rfl⟩ := List.mem_map.1 hit; exact ⟨rfl, rfl⟩
          have e11 : (nn + 1 == nn) = false := nb (by omega)
          simp only [push_cast, Nat.reduceBEq, Nat.reduceAdd, Nat.reduceEqDiff, reduceCtorEq, Nat.reduceLeDiff, Nat.reduceSub, Nat.reduceMul, Nat.reduceLT, Int.reduceEq, Int.reduceLT, Int.reduceLE, Int.reduceBEq, Int.reduceBNe, Int.reduceToNat, Int.reduceNeg, Int.reduceSub, Int.reduceAdd, hir, hi', hx, deedI, hm, hm3, hm4, hm5, hex, List.not_mem_nil, false_implies, hpi, hpj, ok1, e11]
          refine callH (crash_c (n := nn + 1 + 1 + 1) (picks := picks) (hh.new3 (by omega) (by omega) (by omega) (by omega)) (by omega) (.inr (.inr ⟨nn + 1 + 1, picks, 0, rfl, by omega, upd_same _ _ _, rfl, by omega⟩))) ?_
          rintro _ H2 n2 ⟨rfl, S2, h2, hn2', k2'⟩
          have bb8 := (((bb8.new (m := nn + 1) (n' := nn + 1) (Nat.le_refl _) (Nat.le_refl _)).new (m := nn + 1) (n' := nn + 1) (Nat.le_refl _) (Nat.le_refl _)).new (m := nn + 1 + 1) (n' := nn + 1 + 1 + 1) (by omega) (by omega)).keep hn2' k2'
          have bb9 := (((bb9.new (m := nn + 1) (n' := nn + 1) (Nat.le_refl _) (Nat.le_refl _)).new (m := nn + 1) (n' := nn + 1) (Nat.le_refl _) (Nat.le_refl _)).new (m := nn + 1 + 1) (n' := nn + 1 + 1 + 1) (by omega) (by omega)).keep hn2' k2'
          have hc := hI.crash hh.ok picks
          have hco : (d.crash picks).off = false := rfl
          have hcw : (d.crash picks).wait.length = 0 := rfl
          obtain ⟨dc, hdc⟩ : ∃ dc, d.crash picks = dc := ⟨_, rfl⟩
          rw [hdc] at h2 hc hco hcw
          clear hh bd
          simp only [push_cast, Nat.reduceBEq, Nat.reduceAdd, Nat.reduceEqDiff, reduceCtorEq, Nat.reduceLeDiff, Nat.reduceSub, Nat.reduceMul, Nat.reduceLT, Int.reduceEq, Int.reduceLT, Int.reduceLE, Int.reduceBEq, Int.reduceBNe, Int.reduceToNat, Int.reduceNeg, Int.reduceSub, Int.reduceAdd]
          refine loopK (fun q s => ∃ (t : Nat) (H : Hp) (nn : Nat) (S : Nat → Prop), s = ⟨[(1, .sl (row.map deedI)), (5, .ptr (na + 2) 0), (7, .lit (.int .i64 (k : Int))), (8, .rw n0 1 0 5), (9, .rw (n0 + 1) 1 0 k), (11, .lit (.int .i64 (i : Int))), (17, .lit (.int .i64 (t : Int)))], H, nn⟩ ∧ t ≤ k ∧ q = k - t ∧ FsS H nn S (na + 2) dc ∧ Own H nn S n0 (.row false 9 (kpsL.map strI)) ∧ Own H nn S (n0 + 1) (.row true 9 ((svL k f).map strI))) _ [1, 5, 7, 8, 9, 11, 17] ⟨0, H2, n2, S2, rfl, Nat.zero_le _, rfl, h2, bb8, bb9⟩ ?_
          clear h2 bb8 bb9 k2' hn2'
          rintro q _ ⟨t, H, nn, S, rfl, htk, rfl, h, b8, b9⟩
          have b8' := b8.at
          have b9' := b9.at
          by_cases ht : t < k
          · have ht' : (t : Int) < (k : Int) := by omega
            have ht5 := hkp t ht
            have ht5' : (t : Int) < 5 := by omega
            have hxk := kps_at ht5
            have hsx := sv_at f ht
            have hwt' := wrap_nat0 (k := t) (by omega)
            have hfs := hsb t ht
            have hrd : dc.read (kpN t) 0 ((f t).size : Int) = ((f t).data.toList, 0) := hc.read hco ht
            simp only [push_cast, Nat.reduceBEq, Nat.reduceAdd, Nat.reduceEqDiff, reduceCtorEq, Nat.reduceLeDiff, Nat.reduceSub, Nat.reduceMul, Nat.reduceLT, Int.reduceEq, Int.reduceLT, Int.reduceLE, Int.reduceBEq, Int.reduceBNe, Int.reduceToNat, Int.reduceNeg, Int.reduceSub, Int.reduceAdd, ht, ht', ht5, ht5', hxk, hsx, b8', b9', kps_ble, kps_take, sv_ble, sv_take, strI, strA]
            refine callHD (read_c h (kpN t) 0 ((f t).size : Int) (by omega)) ?_
            rintro _ H3 n3 h9
            rw [hrd] at h9
            obtain ⟨hn9, hk9, res, rfl, ⟨rfl, hb0⟩ | ⟨g, gm, rfl, hg1, hg2, hg, hgm⟩⟩ := h9
            · have b8 := b8.same hn9 hk9
              have b9 := b9.same hn9 hk9
              have b8' := b8.at
              have b9' := b9.at
              have hV : (⟨#[]⟩ : ByteArray) = f t := (str_nil hb0).symm
              have hVV : ((⟨#[]⟩ : ByteArray) != f t) = false := by rw [hV]; exact bne_self _
              have hVW : ((⟨#[]⟩ : ByteArray).toList == (f t).toList) = true := by rw [hV]; exact beq_self_eq_true _
              simp (maxSteps := 400000) only [push_cast, Nat.reduceBEq, Nat.reduceAdd, Nat.reduceEqDiff, reduceCtorEq, Nat.reduceLeDiff, Nat.reduceSub, Nat.reduceMul, Nat.reduceLT, Int.reduceEq, Int.reduceLT, Int.reduceLE, Int.reduceBEq, Int.reduceBNe, Int.reduceToNat, Int.reduceNeg, Int.reduceSub, Int.reduceAdd, bytesOf_nil, strOf_nil, ht, ht', ht5, ht5', hxk, hsx, b8', b9', kps_ble, kps_take, sv_ble, sv_take, strI, strA, hVV, hVW, hwt']
              exact ⟨_, by omega, t + 1, _, _, S, rfl, by omega, rfl, h.same hn9 hk9, b8, b9⟩
            · have b8 := b8.same hn9 hk9
              have b9 := b9.same hn9 hk9
              have b8' := b8.at
              have b9' := b9.at
              have hq1 : (⟨(f t).data.toList.toArray⟩ : ByteArray) = f t := rfl
              have hq2 : Nat.ble (f t).data.toList.length (byL (f t).data.toList).length = true := by rw [Nat.ble_eq, byL_len]; exact Nat.le_refl _
              have hq3 : (byL (f t).data.toList).take (f t).data.toList.length = byL (f t).data.toList := List.take_of_length_le (Nat.le_of_eq (byL_len _))
              cases gm
              · simp (maxSteps := 400000) only [push_cast, Nat.reduceBEq, Nat.reduceAdd, Nat.reduceEqDiff, reduceCtorEq, Nat.reduceLeDiff, Nat.reduceSub, Nat.reduceMul, Nat.reduceLT, Int.reduceEq, Int.reduceLT, Int.reduceLE, Int.reduceBEq, Int.reduceBNe, Int.reduceToNat, Int.reduceNeg, Int.reduceSub, Int.reduceAdd, hg, hq2, hq3, bytesOf_byL, strOf_byL, hq1, ht, ht', ht5, ht5', hxk, hsx, b8', b9', kps_ble, kps_take, sv_ble, sv_take, strI, strA, bne_self, hwt']
                exact ⟨_, by omega, t + 1, _, _, S, rfl, by omega, rfl, h.same hn9 hk9, b8, b9⟩
              · simp (maxSteps := 400000) only [push_cast, Nat.reduceBEq, Nat.reduceAdd, Nat.reduceEqDiff, reduceCtorEq, Nat.reduceLeDiff, Nat.reduceSub, Nat.reduceMul, Nat.reduceLT, Int.reduceEq, Int.reduceLT, Int.reduceLE, Int.reduceBEq, Int.reduceBNe, Int.reduceToNat, Int.reduceNeg, Int.reduceSub, Int.reduceAdd, hg, hq2, hq3, bytesOf_byL, strOf_byL, hq1, ht, ht', ht5, ht5', hxk, hsx, b8', b9', kps_ble, kps_take, sv_ble, sv_take, strI, strA, bne_self, hwt']
                exact ⟨_, by omega, t + 1, _, _, S, rfl, by omega, rfl, h.same hn9 hk9, b8, b9⟩
          · simp only [push_cast, Nat.reduceBEq, Nat.reduceAdd, Nat.reduceEqDiff, reduceCtorEq, Nat.reduceLeDiff, Nat.reduceSub, Nat.reduceMul, Nat.reduceLT, Int.reduceEq, Int.reduceLT, Int.reduceLE, Int.reduceBEq, Int.reduceBNe, Int.reduceToNat, Int.reduceNeg, Int.reduceSub, Int.reduceAdd, ht, hw]
            exact ⟨_, by omega, i + 1, f, _, _, _, S, rfl, by omega, by omega, rfl, h, hc, hsb, by omega, b8, b9⟩
        have q1 : (call == 1) = false := beq_eq_false_iff_ne.2 c1
        have q2 : (call == 2) = false := beq_eq_false_iff_ne.2 c2
        have q5 : (call == 5) = false := beq_eq_false_iff_ne.2 c5
        have q6 : (call == 6) = false := beq_eq_false_iff_ne.2 c6
        have q7 : (call == 7) = false := beq_eq_false_iff_ne.2 c7
        have q8 : (call == 8) = false := beq_eq_false_iff_ne.2 c8
        have q9 : (call == 9) = false := beq_eq_false_iff_ne.2 c9
        have q10 : (call == 10) = false := beq_eq_false_iff_ne.2 c10
        simp only [push_cast, Nat.reduceBEq, Nat.reduceAdd, Nat.reduceEqDiff, reduceCtorEq, Nat.reduceLeDiff, Nat.reduceSub, Nat.reduceMul, Nat.reduceLT, Int.reduceEq, Int.reduceLT, Int.reduceLE, Int.reduceBEq, Int.reduceBNe, Int.reduceToNat, Int.reduceNeg, Int.reduceSub, Int.reduceAdd, hir, hi', hx, deedI, hm, hm3, hm4, hm5, hex, q1, q2, q5, q6, q7, q8, q9, q10, hw]
        exact ⟨_, by omega, i + 1, f, _, _, _, S, rfl, by omega, by omega, rfl, hh, hI, hsb, by omega, bb8, bb9⟩
      · simp only [push_cast, Nat.reduceBEq, Nat.reduceAdd, Nat.reduceEqDiff, reduceCtorEq, Nat.reduceLeDiff, Nat.reduceSub, Nat.reduceMul, Nat.reduceLT, Int.reduceEq, Int.reduceLT, Int.reduceLE, Int.reduceBEq, Int.reduceBNe, Int.reduceToNat, Int.reduceNeg, Int.reduceSub, Int.reduceAdd, hir, hi']
    · simp only [push_cast, Nat.reduceBEq, Nat.reduceAdd, Nat.reduceEqDiff, reduceCtorEq, Nat.reduceLeDiff, Nat.reduceSub, Nat.reduceMul, Nat.reduceLT, Int.reduceEq, Int.reduceLT, Int.reduceLE, Int.reduceBEq, Int.reduceBNe, Int.reduceToNat, Int.reduceNeg, Int.reduceSub, Int.reduceAdd, hir]
end Go.Proofs.YtjmafbdakalknaaDoor
