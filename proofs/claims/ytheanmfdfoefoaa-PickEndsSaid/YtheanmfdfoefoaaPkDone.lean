/- Chapter 19's statements: PickDone, by the walk over a heap. -/
import Derived.Test.YtheanmfdfoefoaaPkC
import Derived.Test.YtheanmfdfoefoaaEdTo
set_option linter.unusedVariables false
set_option linter.unusedSimpArgs false
namespace Go.Proofs.Ytheanmfdfoefoaa
open Go Go.RowKit Hv
set_option maxRecDepth 20000
set_option maxHeartbeats 8000000
theorem smin_is (x y : ByteArray) : Hv.smin x y = Lib.minS x y := by
  by_cases h : x.data.toList < y.data.toList <;> by_cases h' : x.data.toList = y.data.toList <;> simp [Hv.smin, Lib.minS, Proofs.bytesLess_eq, Lib.toList_data, h, h'] <;> (intro e; exact absurd (congrArg Array.toList e) h')
theorem smax_is (x y : ByteArray) : Hv.smax x y = Lib.maxS x y := by
  by_cases h : x.data.toList < y.data.toList <;> simp [Hv.smax, Lib.maxS, Proofs.bytesLess_eq, Lib.toList_data, h]
theorem grow_wf0 (l : List AddD) : Wf0 (growS l) := by
  rw [growS_is]
  have key : ∀ (l : List AddD) (s : StD), Wf0 s → Wf0 (l.foldl grow1 s) := by
    intro l
    induction l with
    | nil => intro s h; exact h
    | cons a l ih =>
      intro s h
      refine ih _ ?_
      unfold grow1
      split
      · rename_i h0; exact docApply_wf0 h h0
      · exact h
  exact key _ _ empty_wf0
theorem lim_num (z : Int) {n : Nat} (h : 0 < n) (h' : n ≤ 1000000000) : ∃ T : Int, IntKind.i64.wrap (1 + IntKind.i64.wrap ((IntKind.u64.wrap z).tmod (n : Int))) = T ∧ 1 ≤ T ∧ T ≤ n := by
  have hu : 0 ≤ IntKind.u64.wrap z := by
    simp only [IntKind.wrap, IntKind.bits, IntKind.signed]
    simp
    omega
  have h1 : 0 ≤ (IntKind.u64.wrap z).tmod (n : Int) := Int.tmod_nonneg _ hu
  have h2 : (IntKind.u64.wrap z).tmod (n : Int) < n := Int.tmod_lt_of_pos _ (by omega)
  have h3 : IntKind.i64.wrap ((IntKind.u64.wrap z).tmod (n : Int)) = (IntKind.u64.wrap z).tmod (n : Int) := IntWalk.i64_in _ (by omega)
  exact ⟨1 + (IntKind.u64.wrap z).tmod (n : Int), by rw [h3]; exact IntWalk.i64_in _ (by omega), by omega, by omega⟩
/-- A level that has more than it may is not empty. -/
theorem full_ne {l : List MetaD} {n : Nat} {lim : LimD} (hl : limB lim = true) (hn : n < 3) (h : fullB l n (fullD lim n).1 = true) : l ≠ [] := by
  intro e
  subst e
  simp only [limB, Bool.and_eq_true, decide_eq_true_eq] at hl
  obtain rfl | rfl | rfl : n = 0 ∨ n = 1 ∨ n = 2 := by omega
  all_goals
    simp [fullB, fullD, sizeL, limB, hl] at h
    omega
theorem count30 {s : StD} (g : Gd s 30) : countS s ≤ 120 := by
  have := g.few 0 (by omega)
  have := g.few 1 (by omega)
  have := g.few 2 (by omega)
  have := g.few 3 (by omega)
  unfold countS; omega
theorem files_len (s : StD) : (filesS s).length = countS s := by
  unfold filesS
  rw [(sortZ_perm _).length_eq, List.length_map]
  unfold allS countS; simp; omega
theorem unused_ok {s : StD} (hw : Wf0 s) (hc : countS s ≤ 1000) : 1 ≤ unusedZ (filesS s) ∧ unusedZ (filesS s) ≤ 999999 ∧ ∀ m ∈ allS s, m.file ≠ unusedZ (filesS s) := by
  have hlen := files_len s
  have hle := topRun_le (filesS s).reverse 999999
  rw [List.length_reverse] at hle
  refine ⟨by unfold unusedZ; omega, by unfold unusedZ; omega, fun m hm e => ?_⟩
  have hp : (filesS s).Perm ((allS s).map (·.file)) := sortZ_perm _
  refine unusedZ_no (sortZ_sorted _) (hp.nodup_iff.2 hw.uq) (fun x hx => ?_) ?_
  · obtain ⟨m', hm', rfl⟩ := List.mem_map.1 ((sortZ_perm _).mem_iff.1 hx)
    obtain ⟨n, hn, hmn⟩ := mem_allS.1 hm'
    have := tableB_bd (hw.good n m' hmn)
    omega
  · show unusedZ (filesS s) ∈ filesS s
    rw [← e]; exact hp.mem_iff.2 (List.mem_map.2 ⟨m, hm, rfl⟩)
/-- How many tables there are behind a job. -/
theorem count_none {s : StD} (hw : Wf0 s) {n : Nat} (hn : n < 3) (hne : s.lv n ≠ []) {t : StD} (ht : t.lv = (jobOut s n).lv) : countS t + (allJ s n).length = countS s := by
  obtain ⟨h1, h2, h3⟩ := job_count hw hn hne
  have hl : (allJ s n).length = (frmS s n).length + (tooS s n).length := by unfold allJ; rw [List.length_append]
  unfold countS
  rw [ht, hl]
  obtain rfl | rfl | rfl : n = 0 ∨ n = 1 ∨ n = 2 := by omega
  · have a := h3 2 (by omega) (by omega)
    have b := h3 3 (by omega) (by omega)
    have h2 : ((jobOut s 0).lv 1).length + (tooS s 0).length = (s.lv 1).length := h2
    rw [a, b]; omega
  · have a := h3 0 (by omega) (by omega)
    have b := h3 3 (by omega) (by omega)
    have h2 : ((jobOut s 1).lv 2).length + (tooS s 1).length = (s.lv 2).length := h2
    rw [a, b]; omega
  · have a := h3 0 (by omega) (by omega)
    have b := h3 1 (by omega) (by omega)
    have h2 : ((jobOut s 2).lv 3).length + (tooS s 2).length = (s.lv 3).length := h2
    rw [a, b]; omega
theorem count_one {s : StD} (hw : Wf0 s) {n : Nat} (hn : n < 3) (hne : s.lv n ≠ []) {m : MetaD} {t : StD} (ht : t.lv = ((jobOut s n).with (n + 1) (putL ((jobOut s n).lv (n + 1)) m (n + 1))).lv) : countS t + (allJ s n).length = countS s + 1 := by
  have h0 := count_none hw hn hne (t := jobOut s n) rfl
  have hl : ∀ k, t.lv k = if k = n + 1 then putL ((jobOut s n).lv (n + 1)) m (n + 1) else (jobOut s n).lv k := fun k => by rw [ht, with_lv]
  have h1 : countS t = countS (jobOut s n) + 1 := by
    unfold countS
    rw [hl 0, hl 1, hl 2, hl 3]
    obtain rfl | rfl | rfl : n = 0 ∨ n = 1 ∨ n = 2 := by omega
    · simp only [Nat.zero_add, if_neg (by omega : ¬ (0 : Nat) = 1), if_pos, if_neg (by omega : ¬ (2 : Nat) = 1), if_neg (by omega : ¬ (3 : Nat) = 1)]
      rw [putL_len]; omega
    · rw [if_neg (by omega), if_neg (by omega), if_pos rfl, if_neg (by omega), putL_len]; show _ + _ + (((jobOut s 1).lv 2).length + 1) + _ = _; omega
    · rw [if_neg (by omega), if_neg (by omega), if_neg (by omega), if_pos rfl, putL_len]; show _ + _ + _ + (((jobOut s 2).lv 3).length + 1) = _; omega
  omega
theorem PickDone_h (l : List AddD) (a b : Int) (made0 : List MetaD) : Hv.ACalls Try.prog 5 [.sl (l.map addH), limH ⟨a, b⟩, .sl (made0.map metaH)] (.lit (.bool true)) := by
  refine acallsC_of (rs := [.tmp 6]) ⟨[0, 1, 2, 4, 6, 7, 8, 9, 10, 11, 12, 13, 14, 15, 16, 17, 18, 19, 57, 59, 80, 103], [], [], [(4, [(0, [], []), (2, [], []), (3, [], []), (4, [], []), (5, [], []), (6, [], []), (1, [3, 5], [0]), (7, [], [1, 6, 0, 3, 5, 2, 4]), (8, [], []), (9, [], []), (10, [], []), (11, [], []), (12, [0, 3, 5], []), (13, [], [12, 9, 7, 0, 1, 2, 3, 4, 5, 6, 8]), (14, [], [10, 13, 0, 1, 2, 3, 4, 5, 6, 7, 8, 9, 12]), (15, [], [11, 14, 0, 1, 2, 3, 4, 5, 6, 7, 8, 9, 10, 12, 13])]), (9, [(0, [], []), (1, [], []), (2, [], []), (3, [], []), (5, [], []), (6, [], []), (8, [], []), (9, [], []), (4, [1, 6, 9], [3, 2]), (7, [1, 9], [6, 4, 5, 3, 2]), (10, [], []), (11, [1, 3, 6, 9], []), (12, [], [11, 10, 7, 0, 1, 2, 3, 4, 5, 6, 8, 9])]), (10, [(0, [], []), (1, [], []), (5, [], []), (6, [], []), (2, [0, 5], [1]), (3, [5], [0, 2, 1]), (4, [5], [3, 0, 2, 1]), (7, [], [5, 6, 4, 3, 0, 2, 1]), (8, [], [4, 7, 3, 5, 6, 0, 2, 1]), (9, [], [])]), (12, [(1, [], []), (2, [], []), (4, [], []), (5, [], []), (0, [2, 5], []), (3, [5], [0, 2, 1]), (6, [], [3, 5, 0, 2, 4, 1]), (7, [], [6, 0, 1, 2, 3, 4, 5])]), (13, [(0, [], []), (3, [], []), (4, [], []), (5, [], []), (6, [], []), (7, [], []), (8, [], []), (9, [], []), (10, [], []), (1, [4, 6, 8, 10], [0]), (2, [4, 6, 8, 10], [1, 0]), (11, [], []), (12, [0, 4, 6, 8, 10], []), (13, [], [12, 11, 2, 0, 1, 3, 4, 5, 6, 7, 8, 9, 10])]), (17, [(0, [], []), (1, [], []), (2, [], []), (3, [], []), (4, [], []), (5, [], []), (6, [], []), (7, [], []), (8, [], []), (9, [], []), (10, [], []), (11, [], []), (12, [], []), (13, [], []), (14, [], []), (15, [], []), (16, [], []), (17, [12, 14], [16, 7, 0, 1, 2, 3, 4, 5, 6, 8, 9]), (18, [], []), (19, [], [18, 15, 17, 0, 1, 2, 3, 4, 5, 6, 7, 8, 9, 10, 11, 12, 13, 14, 16])]), (18, [(0, [], []), (2, [], []), (3, [], []), (4, [], []), (1, [2, 3], [0]), (5, [2], [4, 1, 3, 0]), (6, [], [2, 5, 4, 1, 3, 0]), (7, [], [1, 6, 0, 2, 5, 4, 3]), (8, [], []), (9, [], []), (10, [], []), (11, [0, 2, 3], []), (12, [], [11, 9, 7, 0, 1, 2, 3, 4, 5, 6, 8]), (13, [], [10, 12, 0, 1, 2, 3, 4, 5, 6, 7, 8, 9, 11])]), (19, [(0, [], []), (2, [], []), (1, [2], [0]), (3, [], [2, 1, 0]), (4, [], [1, 3, 0, 2]), (5, [], []), (6, [], []), (7, [], []), (8, [0, 2], []), (9, [], [8, 6, 4, 0, 1, 2, 3, 5]), (10, [], [7, 9, 0, 1, 2, 3, 4, 5, 6, 8])])], [13]⟩ TOk mixed Try.func5 rfl rfl (by kernel_rfl) (by kernel_rfl) rfl (List.forall_mem_cons.2 ⟨noId_adds l, nid2 (noId_lim _) (noId_metas _)⟩) (.lit _) ?_
  obtain ⟨T, hT, hT1, hT2⟩ := lim_num a (n := 9) (by omega) (by omega)
  obtain ⟨B, hB, hB1, hB2⟩ := lim_num b (n := 2000) (by omega) (by omega)
  have hgr := grown_h l
  have hgd := grow_gd l
  have hw := grow_wf0 l
  generalize growS l = S at hgr hgd hw
  have hT : IntKind.i64.wrap (1 + IntKind.i64.wrap ((IntKind.u64.wrap a).tmod 9)) = T := hT
  have hB : IntKind.i64.wrap (1 + IntKind.i64.wrap ((IntKind.u64.wrap b).tmod 2000)) = B := hB
  have hlim : limB ⟨T, B⟩ = true := by
    simp only [limB, Bool.and_eq_true, decide_eq_true_eq]; omega
  have hto := to19_h S (fun n hn => Nat.le_trans (hgd.few n hn) (by omega))
  have hnx := next_h S ⟨T, B⟩ hgd
  obtain ⟨q, hq, hql, hq20⟩ : ∃ q : Nat, (if (20 : Int) < (made0.length : Int) then (20 : Int) else (made0.length : Int)) = (q : Int) ∧ q ≤ made0.length ∧ q ≤ 20 := by
    by_cases h : (20 : Int) < (made0.length : Int)
    · exact ⟨20, by rw [if_pos h]; rfl, by omega, by omega⟩
    · exact ⟨made0.length, by rw [if_neg h], by omega, by omega⟩
  unfold stH at hgr hto hnx
  unfold limH at hnx
  simp only [push_cast, Nat.reduceBEq, Nat.reduceAdd, Nat.reduceEqDiff, reduceCtorEq, Nat.reduceLeDiff, Nat.reduceSub, Nat.reduceMul, Nat.reduceLT, Int.reduceEq, Int.reduceLT, Int.reduceLE, Int.reduceBEq, Int.reduceBNe, Int.reduceToNat, Int.reduceNeg, Int.reduceSub, Int.reduceAdd, limH]
  refine callK hgr ?_
  have hqi : (q : Int) ≤ (made0.length : Int) := by omega
  have hml : ∀ a, (metaH a).length = 4 := fun _ => rfl
  have htk : List.take q (List.map metaH made0) = List.map metaH (made0.take q) := List.map_take.symm
  simp only [push_cast, Nat.reduceBEq, Nat.reduceAdd, Nat.reduceEqDiff, reduceCtorEq, Nat.reduceLeDiff, Nat.reduceSub, Nat.reduceMul, Nat.reduceLT, Int.reduceEq, Int.reduceLT, Int.reduceLE, Int.reduceBEq, Int.reduceBNe, Int.reduceToNat, Int.reduceNeg, Int.reduceSub, Int.reduceAdd, hT, hB, hq, hqi, hml, htk]
  refine callD hto ?_
  simp only [push_cast, Nat.reduceBEq, Nat.reduceAdd, Nat.reduceEqDiff, reduceCtorEq, Nat.reduceLeDiff, Nat.reduceSub, Nat.reduceMul, Nat.reduceLT, Int.reduceEq, Int.reduceLT, Int.reduceLE, Int.reduceBEq, Int.reduceBNe, Int.reduceToNat, Int.reduceNeg, Int.reduceSub, Int.reduceAdd]
  have hpk := picks_h
  rcases nextD_cases (s := S) hlim with hno | ⟨n, hn, hjob, hfull⟩
  · rw [hno] at hnx
    unfold jobH noJ at hnx
    refine callD hnx ?_
    simp only [push_cast, Nat.reduceBEq, Nat.reduceAdd, Nat.reduceEqDiff, reduceCtorEq, Nat.reduceLeDiff, Nat.reduceSub, Nat.reduceMul, Nat.reduceLT, Int.reduceEq, Int.reduceLT, Int.reduceLE, Int.reduceBEq, Int.reduceBNe, Int.reduceToNat, Int.reduceNeg, Int.reduceSub, Int.reduceAdd]
    refine callK hpk ?_
    simp only [push_cast, Nat.reduceBEq, Nat.reduceAdd, Nat.reduceEqDiff, reduceCtorEq, Nat.reduceLeDiff, Nat.reduceSub, Nat.reduceMul, Nat.reduceLT, Int.reduceEq, Int.reduceLT, Int.reduceLE, Int.reduceBEq, Int.reduceBNe, Int.reduceToNat, Int.reduceNeg, Int.reduceSub, Int.reduceAdd]
  · rw [hjob] at hnx
    have hne := full_ne hlim hn hfull
    obtain ⟨j, hj⟩ : ∃ j, jobS S n = j := ⟨_, rfl⟩
    have hfew : (S.lv n).length ≤ 30 ∧ (S.lv (n + 1)).length ≤ 30 := ⟨hgd.few n (by omega), hgd.few (n + 1) (by omega)⟩
    have hcnt := job_count hw hn hne
    have hjl : j.level = (n : Int) := by rw [← hj]; rfl
    have hjf : j.frm = frmS S n := by rw [← hj]; rfl
    have hjt : j.too = tooS S n := by rw [← hj]; rfl
    have hA0 := allJ_ne hne
    have hAd : j.frm ++ j.too = allJ S n := by rw [hjf, hjt]; rfl
    have hfl : j.frm.length ≤ 30 := by rw [hjf]; omega
    have htl : j.too.length ≤ 30 := by rw [hjt]; omega
    have hM : (made0.take q).length ≤ 20 := by rw [List.length_take]; omega
    have hc := count30 hgd
    obtain ⟨u1, u2, u3⟩ := unused_ok hw (by omega)
    have hun := unused_h S hw.uq (fun i hi => Nat.le_trans (hgd.few i hi) (by omega))
    have hfS := files_h S hw.uq (fun i hi => Nat.le_trans (hgd.few i hi) (by omega))
    obtain ⟨z1, z2⟩ := done_none hw hn hne (by omega)
    obtain ⟨o1, o2⟩ := done_one hw hn hne (by omega) ⟨u1, u2⟩ (z := 1) (by omega) u3
    have wz := docApply_wf0 hw z1
    have wo := docApply_wf0 hw o1
    have cz := count_none hw hn hne z2
    have co := count_one hw hn hne o2
    have lz := docApply_lens (s := S) (e := doneE (jobS S n) [])
    have lo := docApply_lens (s := S) (e := doneE (jobS S n) [oneM S n (unusedZ (filesS S)) 1])
    have az := apply_h S (doneE (jobS S n) []) hw (fun i hi => Nat.le_trans (hgd.few i hi) (by omega))
    have ao := apply_h S (doneE (jobS S n) [oneM S n (unusedZ (filesS S)) 1]) hw (fun i hi => Nat.le_trans (hgd.few i hi) (by omega))
    have fz := files_h _ wz.uq (fun i hi => Nat.le_trans (lz i hi) (by omega))
    have fo := files_h _ wo.uq (fun i hi => Nat.le_trans (lo i hi) (by omega))
    have lfz := files_len (docApply S (doneE (jobS S n) [])).1
    have lfo := files_len (docApply S (doneE (jobS S n) [oneM S n (unusedZ (filesS S)) 1])).1
    have lfS := files_len S
    rw [z1] at az
    rw [o1] at ao
    have hoM : oneM S n (unusedZ (filesS S)) 1 = ⟨unusedZ (filesS S), 1, spanA (allJ S n), spanZ (allJ S n)⟩ := rfl
    rw [hj] at hnx az ao fz fo lfz lfo cz co
    rw [hoM] at ao fo lfo co
    generalize (docApply S (doneE j [])).1 = Z0 at az fz lfz cz
    generalize (docApply S (doneE j [⟨unusedZ (filesS S), 1, spanA (allJ S n), spanZ (allJ S n)⟩])).1 = Z1 at ao fo lfo co
    have d0 := done_h j [] (by rw [hjl]; omega) (by omega) (by omega) (by simp)
    have d1 := done_h j [⟨unusedZ (filesS S), 1, spanA (allJ S n), spanZ (allJ S n)⟩] (by rw [hjl]; omega) (by omega) (by omega) (by simp)
    have dM := done_h j (made0.take q) (by rw [hjl]; omega) (by omega) (by omega) (by omega)
    have eM := docDone_h j (made0.take q) (by rw [hjl]; omega) (by omega) (by omega) (by omega)
    have tM := tables19_h (made0.take q) (by omega)
    have t1 := tables19_h [⟨unusedZ (filesS S), 1, spanA (allJ S n), spanZ (allJ S n)⟩] (by simp)
    have gl : (doneE j (made0.take q)).gone.length ≤ 60 := by
      show (j.frm.map (fun m => (⟨j.level, m.file⟩ : PlD)) ++ j.too.map (fun m => (⟨j.level + 1, m.file⟩ : PlD))).length ≤ 60
      rw [List.length_append, List.length_map, List.length_map]; omega
    have nl : (doneE j (made0.take q)).new.length ≤ 20 := by
      show ((made0.take q).map fun m => (⟨j.level + 1, m⟩ : AddD)).length ≤ 20
      rw [List.length_map]; omega
    have cM := change_h (doneE j (made0.take q)) (by omega) (by omega)
    have sM := SameEdit_refl (doneE j (made0.take q)) (by omega) (by omega)
    have mF := metas19_h j.frm (by omega)
    have mT := metas19_h j.too (by omega)
    generalize made0.take q = M at *
    obtain ⟨A, hA⟩ : ∃ A, allJ S n = A := ⟨_, rfl⟩
    rw [hA] at hA0 hAd ao d1 t1 cz co
    have hAl : j.frm.length + j.too.length = A.length := by rw [← hAd, List.length_append]
    have hAm : List.map metaH j.frm ++ List.map metaH j.too = List.map metaH A := by rw [← hAd, List.map_append]
    clear hA hoM z1 z2 o1 o2 wz wo lz lo hcnt hfew hjf hjt hj hjob hfull hq hqi htk hM hAd gl nl u3 hne
    generalize unusedZ (filesS S) = U at *
    obtain ⟨lv, frm, too, bot⟩ := j
    simp only at hjl hfl htl hAl hAm mF mT
    unfold jobH at hnx dM eM d0 d1
    unfold edH at dM eM d0 d1 cM sM az ao
    unfold stH at az ao fz fo hfS hun
    simp only at hnx dM eM d0 d1
    refine callD hnx ?_
    simp only [push_cast, Nat.reduceBEq, Nat.reduceAdd, Nat.reduceEqDiff, reduceCtorEq, Nat.reduceLeDiff, Nat.reduceSub, Nat.reduceMul, Nat.reduceLT, Int.reduceEq, Int.reduceLT, Int.reduceLE, Int.reduceBEq, Int.reduceBNe, Int.reduceToNat, Int.reduceNeg, Int.reduceSub, Int.reduceAdd]
    refine callK hpk ?_
    simp only [push_cast, Nat.reduceBEq, Nat.reduceAdd, Nat.reduceEqDiff, reduceCtorEq, Nat.reduceLeDiff, Nat.reduceSub, Nat.reduceMul, Nat.reduceLT, Int.reduceEq, Int.reduceLT, Int.reduceLE, Int.reduceBEq, Int.reduceBNe, Int.reduceToNat, Int.reduceNeg, Int.reduceSub, Int.reduceAdd]
    refine callD mF ?_
    simp only [push_cast, Nat.reduceBEq, Nat.reduceAdd, Nat.reduceEqDiff, reduceCtorEq, Nat.reduceLeDiff, Nat.reduceSub, Nat.reduceMul, Nat.reduceLT, Int.reduceEq, Int.reduceLT, Int.reduceLE, Int.reduceBEq, Int.reduceBNe, Int.reduceToNat, Int.reduceNeg, Int.reduceSub, Int.reduceAdd]
    refine callD mT ?_
    simp only [push_cast, Nat.reduceBEq, Nat.reduceAdd, Nat.reduceEqDiff, reduceCtorEq, Nat.reduceLeDiff, Nat.reduceSub, Nat.reduceMul, Nat.reduceLT, Int.reduceEq, Int.reduceLT, Int.reduceLE, Int.reduceBEq, Int.reduceBNe, Int.reduceToNat, Int.reduceNeg, Int.reduceSub, Int.reduceAdd]
    refine callD tM ?_
    simp only [push_cast, Nat.reduceBEq, Nat.reduceAdd, Nat.reduceEqDiff, reduceCtorEq, Nat.reduceLeDiff, Nat.reduceSub, Nat.reduceMul, Nat.reduceLT, Int.reduceEq, Int.reduceLT, Int.reduceLE, Int.reduceBEq, Int.reduceBNe, Int.reduceToNat, Int.reduceNeg, Int.reduceSub, Int.reduceAdd]
    refine callD dM ?_
    simp only [push_cast, Nat.reduceBEq, Nat.reduceAdd, Nat.reduceEqDiff, reduceCtorEq, Nat.reduceLeDiff, Nat.reduceSub, Nat.reduceMul, Nat.reduceLT, Int.reduceEq, Int.reduceLT, Int.reduceLE, Int.reduceBEq, Int.reduceBNe, Int.reduceToNat, Int.reduceNeg, Int.reduceSub, Int.reduceAdd]
    refine callD cM ?_
    simp only [push_cast, Nat.reduceBEq, Nat.reduceAdd, Nat.reduceEqDiff, reduceCtorEq, Nat.reduceLeDiff, Nat.reduceSub, Nat.reduceMul, Nat.reduceLT, Int.reduceEq, Int.reduceLT, Int.reduceLE, Int.reduceBEq, Int.reduceBNe, Int.reduceToNat, Int.reduceNeg, Int.reduceSub, Int.reduceAdd]
    refine callD eM ?_
    simp only [push_cast, Nat.reduceBEq, Nat.reduceAdd, Nat.reduceEqDiff, reduceCtorEq, Nat.reduceLeDiff, Nat.reduceSub, Nat.reduceMul, Nat.reduceLT, Int.reduceEq, Int.reduceLT, Int.reduceLE, Int.reduceBEq, Int.reduceBNe, Int.reduceToNat, Int.reduceNeg, Int.reduceSub, Int.reduceAdd]
    refine callD sM ?_
    obtain ⟨hd, h0, hsA, hsZ⟩ : ∃ x, A[0]? = some x ∧ spanA A = minF x.first A ∧ spanZ A = maxF x.last A := by
      cases A with
      | nil => exact absurd rfl hA0
      | cons x l => exact ⟨x, rfl, rfl, rfl⟩
    have ih1 : ∀ z, (metaH z).length = 4 := fun _ => rfl
    have ih2 : ∀ z, (metaH z).all AV.isOne = true := fun _ => rfl
    have b1 : frm.length * 48 ≤ 140737488355328 := by omega
    have b2 : (frm.length + too.length) * 48 ≤ 140737488355328 := by omega
    have b3 : A.length * 48 ≤ 140737488355328 := by omega
    simp only [push_cast, Nat.reduceBEq, Nat.reduceAdd, Nat.reduceEqDiff, reduceCtorEq, Nat.reduceLeDiff, Nat.reduceSub, Nat.reduceMul, Nat.reduceLT, Int.reduceEq, Int.reduceLT, Int.reduceLE, Int.reduceBEq, Int.reduceBNe, Int.reduceToNat, Int.reduceNeg, Int.reduceSub, Int.reduceAdd, ih1, ih2, b1, b2, hAm, hAl, List.not_mem_nil, false_implies, implies_true]
    refine cutK (fun x => ∃ H, x = ⟨[(7, .ptr 1 0), (8, .ptr 2 0), (12, .rw 6 4 0 A.length)], H, 7⟩ ∧ H 1 = some (.cells (stCells S)) ∧ H 2 = some (.cells [.lit (.int .i64 lv), .sl (frm.map metaH), .sl (too.map metaH), .lit (.bool bot)]) ∧ H 6 = some (.row false 56 (A.map metaH))) [7, 8, 12] ?_ ?_
    · simp only [push_cast, Nat.reduceBEq, Nat.reduceAdd, Nat.reduceEqDiff, reduceCtorEq, Nat.reduceLeDiff, Nat.reduceSub, Nat.reduceMul, Nat.reduceLT, Int.reduceEq, Int.reduceLT, Int.reduceLE, Int.reduceBEq, Int.reduceBNe, Int.reduceToNat, Int.reduceNeg, Int.reduceSub, Int.reduceAdd, ih1, ih2, b1, b2, b3, hAm, hAl, List.not_mem_nil, false_implies, implies_true]
      exact ⟨_, rfl, rfl, rfl, rfl⟩
    · rintro _ ⟨H, rfl, r1, r2, r6⟩
      unfold stCells at r1
      have hAp : (0 : Int) < (A.length : Int) := by
        have := (List.getElem?_eq_some_iff.1 h0).1
        omega
      have hAn : A.length ≤ 60 := by omega
      simp only [push_cast, Nat.reduceBEq, Nat.reduceAdd, Nat.reduceEqDiff, reduceCtorEq, Nat.reduceLeDiff, Nat.reduceSub, Nat.reduceMul, Nat.reduceLT, Int.reduceEq, Int.reduceLT, Int.reduceLE, Int.reduceBEq, Int.reduceBNe, Int.reduceToNat, Int.reduceNeg, Int.reduceSub, Int.reduceAdd, r1, r6, h0, hAp, metaH]
      refine callD hto ?_
      simp only [push_cast, Nat.reduceBEq, Nat.reduceAdd, Nat.reduceEqDiff, reduceCtorEq, Nat.reduceLeDiff, Nat.reduceSub, Nat.reduceMul, Nat.reduceLT, Int.reduceEq, Int.reduceLT, Int.reduceLE, Int.reduceBEq, Int.reduceBNe, Int.reduceToNat, Int.reduceNeg, Int.reduceSub, Int.reduceAdd, r1, r6, h0, hAp, metaH]
      refine callD hun ?_
      simp only [push_cast, Nat.reduceBEq, Nat.reduceAdd, Nat.reduceEqDiff, reduceCtorEq, Nat.reduceLeDiff, Nat.reduceSub, Nat.reduceMul, Nat.reduceLT, Int.reduceEq, Int.reduceLT, Int.reduceLE, Int.reduceBEq, Int.reduceBNe, Int.reduceToNat, Int.reduceNeg, Int.reduceSub, Int.reduceAdd, r1, r6, h0, hAp, metaH]
      refine loopK (fun m x => ∃ (k : Nat) (H : Hp), x = ⟨[(7, .ptr 1 0), (8, .ptr 2 0), (12, .rw 6 4 0 A.length), (13, .ptr 7 0), (14, .lit (.int .i64 (k : Int)))], H, 8⟩ ∧ k ≤ A.length ∧ m = A.length - k ∧ H 1 = some (.cells (stCells S)) ∧ H 2 = some (.cells [.lit (.int .i64 lv), .sl (frm.map metaH), .sl (too.map metaH), .lit (.bool bot)]) ∧ H 6 = some (.row false 56 (A.map metaH)) ∧ H 7 = some (.cells [.lit (.int .i64 U), .lit (.int .i64 1), .lit (.string (minF hd.first (A.take k))), .lit (.string (maxF hd.last (A.take k)))])) _ [7, 8, 12, 13, 14] (by exact ⟨0, _, rfl, by omega, rfl, r1, r2, r6, rfl⟩) ?_
      clear r1 r2 r6
      rintro m _ ⟨k, H, rfl, hk, rfl, r1, r2, r6, r7⟩
      have r1' := r1
      unfold stCells at r1
      by_cases h : k < A.length
      · obtain ⟨x, hx⟩ : ∃ x, A[k]? = some x := ⟨_, List.getElem?_eq_getElem h⟩
        have hwk := wrap_nat (k := k) (by omega)
        have hmin : Hv.smin (minF hd.first (A.take k)) x.first = minF hd.first (A.take (k + 1)) := by
          rw [smin_is, List.take_add_one, hx, minF_append]; rfl
        have hmax : Hv.smax (maxF hd.last (A.take k)) x.last = maxF hd.last (A.take (k + 1)) := by
          rw [smax_is, List.take_add_one, hx, maxF_append]; rfl
        simp only [push_cast, Nat.reduceBEq, Nat.reduceAdd, Nat.reduceEqDiff, reduceCtorEq, Nat.reduceLeDiff, Nat.reduceSub, Nat.reduceMul, Nat.reduceLT, Int.reduceEq, Int.reduceLT, Int.reduceLE, Int.reduceBEq, Int.reduceBNe, Int.reduceToNat, Int.reduceNeg, Int.reduceSub, Int.reduceAdd, h, r6, r7, hx, metaH, hmin, hmax, hwk]
        exact ⟨_, by omega, k + 1, upd (upd H 7 _) 7 _, rfl, by omega, rfl, r1', r2, r6, rfl⟩
      · obtain rfl : k = A.length := by omega
        have hnA : ¬ (A.length : Int) < (A.length : Int) := by omega
        rw [List.take_length, ← hsA, ← hsZ] at r7
        simp only [push_cast, Nat.reduceBEq, Nat.reduceAdd, Nat.reduceEqDiff, reduceCtorEq, Nat.reduceLeDiff, Nat.reduceSub, Nat.reduceMul, Nat.reduceLT, Int.reduceEq, Int.reduceLT, Int.reduceLE, Int.reduceBEq, Int.reduceBNe, Int.reduceToNat, Int.reduceNeg, Int.reduceSub, Int.reduceAdd, hnA, r1, r2, r6, r7]
        refine callD hto ?_
        simp only [push_cast, Nat.reduceBEq, Nat.reduceAdd, Nat.reduceEqDiff, reduceCtorEq, Nat.reduceLeDiff, Nat.reduceSub, Nat.reduceMul, Nat.reduceLT, Int.reduceEq, Int.reduceLT, Int.reduceLE, Int.reduceBEq, Int.reduceBNe, Int.reduceToNat, Int.reduceNeg, Int.reduceSub, Int.reduceAdd, r1, r2, r6, r7]
        refine callD t1 ?_
        simp only [push_cast, Nat.reduceBEq, Nat.reduceAdd, Nat.reduceEqDiff, reduceCtorEq, Nat.reduceLeDiff, Nat.reduceSub, Nat.reduceMul, Nat.reduceLT, Int.reduceEq, Int.reduceLT, Int.reduceLE, Int.reduceBEq, Int.reduceBNe, Int.reduceToNat, Int.reduceNeg, Int.reduceSub, Int.reduceAdd, r1, r2, r6, r7]
        refine callD d1 ?_
        simp only [push_cast, Nat.reduceBEq, Nat.reduceAdd, Nat.reduceEqDiff, reduceCtorEq, Nat.reduceLeDiff, Nat.reduceSub, Nat.reduceMul, Nat.reduceLT, Int.reduceEq, Int.reduceLT, Int.reduceLE, Int.reduceBEq, Int.reduceBNe, Int.reduceToNat, Int.reduceNeg, Int.reduceSub, Int.reduceAdd, r1, r2, r6, r7]
        refine callD ao ?_
        simp only [push_cast, Nat.reduceBEq, Nat.reduceAdd, Nat.reduceEqDiff, reduceCtorEq, Nat.reduceLeDiff, Nat.reduceSub, Nat.reduceMul, Nat.reduceLT, Int.reduceEq, Int.reduceLT, Int.reduceLE, Int.reduceBEq, Int.reduceBNe, Int.reduceToNat, Int.reduceNeg, Int.reduceSub, Int.reduceAdd, r1, r2, r6, r7]
        refine callD hto ?_
        simp only [push_cast, Nat.reduceBEq, Nat.reduceAdd, Nat.reduceEqDiff, reduceCtorEq, Nat.reduceLeDiff, Nat.reduceSub, Nat.reduceMul, Nat.reduceLT, Int.reduceEq, Int.reduceLT, Int.reduceLE, Int.reduceBEq, Int.reduceBNe, Int.reduceToNat, Int.reduceNeg, Int.reduceSub, Int.reduceAdd, r1, r2, r6, r7]
        refine callD d0 ?_
        simp only [push_cast, Nat.reduceBEq, Nat.reduceAdd, Nat.reduceEqDiff, reduceCtorEq, Nat.reduceLeDiff, Nat.reduceSub, Nat.reduceMul, Nat.reduceLT, Int.reduceEq, Int.reduceLT, Int.reduceLE, Int.reduceBEq, Int.reduceBNe, Int.reduceToNat, Int.reduceNeg, Int.reduceSub, Int.reduceAdd, r1, r2, r6, r7]
        refine callD az ?_
        simp only [push_cast, Nat.reduceBEq, Nat.reduceAdd, Nat.reduceEqDiff, reduceCtorEq, Nat.reduceLeDiff, Nat.reduceSub, Nat.reduceMul, Nat.reduceLT, Int.reduceEq, Int.reduceLT, Int.reduceLE, Int.reduceBEq, Int.reduceBNe, Int.reduceToNat, Int.reduceNeg, Int.reduceSub, Int.reduceAdd, r1, r2, r6, r7]
        refine callK hto ?_
        simp only [push_cast, Nat.reduceBEq, Nat.reduceAdd, Nat.reduceEqDiff, reduceCtorEq, Nat.reduceLeDiff, Nat.reduceSub, Nat.reduceMul, Nat.reduceLT, Int.reduceEq, Int.reduceLT, Int.reduceLE, Int.reduceBEq, Int.reduceBNe, Int.reduceToNat, Int.reduceNeg, Int.reduceSub, Int.reduceAdd, r1, r2, r6, r7]
        refine callK hfS ?_
        have hcS : countS S ≤ 120 := hc
        have w1 : IntKind.i64.wrap ((countS S : Int) - (A.length : Int)) = (countS Z0 : Int) := by
          rw [show (countS S : Int) - (A.length : Int) = (countS Z0 : Int) by omega]; exact IntWalk.i64_in _ (by omega)
        have w2 : IntKind.i64.wrap ((countS Z0 : Int) + 1) = (countS Z1 : Int) := by
          rw [show (countS Z0 : Int) + 1 = (countS Z1 : Int) by omega]; exact IntWalk.i64_in _ (by omega)
        simp only [push_cast, Nat.reduceBEq, Nat.reduceAdd, Nat.reduceEqDiff, reduceCtorEq, Nat.reduceLeDiff, Nat.reduceSub, Nat.reduceMul, Nat.reduceLT, Int.reduceEq, Int.reduceLT, Int.reduceLE, Int.reduceBEq, Int.reduceBNe, Int.reduceToNat, Int.reduceNeg, Int.reduceSub, Int.reduceAdd, r1, r2, r6, r7, lfS]
        refine callK fz ?_
        simp only [push_cast, Nat.reduceBEq, Nat.reduceAdd, Nat.reduceEqDiff, reduceCtorEq, Nat.reduceLeDiff, Nat.reduceSub, Nat.reduceMul, Nat.reduceLT, Int.reduceEq, Int.reduceLT, Int.reduceLE, Int.reduceBEq, Int.reduceBNe, Int.reduceToNat, Int.reduceNeg, Int.reduceSub, Int.reduceAdd, r1, r2, r6, r7, lfz, w1]
        refine callK fo ?_
        simp only [push_cast, Nat.reduceBEq, Nat.reduceAdd, Nat.reduceEqDiff, reduceCtorEq, Nat.reduceLeDiff, Nat.reduceSub, Nat.reduceMul, Nat.reduceLT, Int.reduceEq, Int.reduceLT, Int.reduceLE, Int.reduceBEq, Int.reduceBNe, Int.reduceToNat, Int.reduceNeg, Int.reduceSub, Int.reduceAdd, r1, r2, r6, r7, lfo, w1, w2]
end Go.Proofs.Ytheanmfdfoefoaa
