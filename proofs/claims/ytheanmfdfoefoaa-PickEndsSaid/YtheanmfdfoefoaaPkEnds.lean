/- Chapter 19's statements: PickEnds, by the walk over a heap. -/
import Derived.Test.YtheanmfdfoefoaaPkDone
set_option linter.unusedVariables false
set_option linter.unusedSimpArgs false
namespace Go.Proofs.Ytheanmfdfoefoaa
open Go Go.RowKit Hv
set_option maxRecDepth 20000
set_option maxHeartbeats 8000000
theorem next_none {s : StD} {lim : LimD} (h : limB lim = true) : (nextD s lim = (noJ, false, 0) ∧ ∀ n, n < 3 → fullB (s.lv n) n (fullD lim n).1 = false) ∨ ∃ n, n < 3 ∧ nextD s lim = (jobS s n, true, 0) ∧ fullB (s.lv n) n (fullD lim n).1 = true := by
  have e : nextD s lim = nextS s lim 3 0 := by unfold nextD; rw [if_neg (by rw [h]; decide)]
  rw [e]
  show ((if fullB (s.lv 0) (0 : Nat) (fullD lim (0 : Nat)).1 then (jobS s 0, true, 0) else if fullB (s.lv 1) (1 : Nat) (fullD lim (1 : Nat)).1 then (jobS s 1, true, 0) else if fullB (s.lv 2) (2 : Nat) (fullD lim (2 : Nat)).1 then (jobS s 2, true, 0) else (noJ, false, 0)) = (noJ, false, 0) ∧ _) ∨ ∃ n, n < 3 ∧ (if fullB (s.lv 0) (0 : Nat) (fullD lim (0 : Nat)).1 then (jobS s 0, true, 0) else if fullB (s.lv 1) (1 : Nat) (fullD lim (1 : Nat)).1 then (jobS s 1, true, 0) else if fullB (s.lv 2) (2 : Nat) (fullD lim (2 : Nat)).1 then (jobS s 2, true, 0) else (noJ, false, 0)) = (jobS s n, true, 0) ∧ _
  cases h0 : fullB (s.lv 0) (0 : Nat) (fullD lim (0 : Nat)).1 with
  | true => exact .inr ⟨0, by omega, rfl, h0⟩
  | false =>
    cases h1 : fullB (s.lv 1) (1 : Nat) (fullD lim (1 : Nat)).1 with
    | true => exact .inr ⟨1, by omega, rfl, h1⟩
    | false =>
      cases h2 : fullB (s.lv 2) (2 : Nat) (fullD lim (2 : Nat)).1 with
      | true => exact .inr ⟨2, by omega, rfl, h2⟩
      | false =>
        refine .inl ⟨rfl, fun n hn => ?_⟩
        obtain rfl | rfl | rfl : n = 0 ∨ n = 1 ∨ n = 2 := by omega
        · exact h0
        · exact h1
        · exact h2
/-- What is left to be done. -/
def pot (s : StD) : Nat := 3 * (s.lv 0).length + 2 * (s.lv 1).length + (s.lv 2).length
theorem pot_one {s : StD} (hw : Wf0 s) {n : Nat} (hn : n < 3) (hne : s.lv n ≠ []) {m : MetaD} {t : StD} (ht : t.lv = ((jobOut s n).with (n + 1) (putL ((jobOut s n).lv (n + 1)) m (n + 1))).lv) : pot t + 1 ≤ pot s := by
  obtain ⟨h1, h2, h3⟩ := job_count hw hn hne
  have hf : 1 ≤ (frmS s n).length := List.length_pos_iff.2 (frm_ne hne)
  have hl : ∀ k, t.lv k = if k = n + 1 then putL ((jobOut s n).lv (n + 1)) m (n + 1) else (jobOut s n).lv k := fun k => by rw [ht, with_lv]
  unfold pot
  rw [hl 0, hl 1, hl 2]
  obtain rfl | rfl | rfl : n = 0 ∨ n = 1 ∨ n = 2 := by omega
  · have b := h3 2 (by omega) (by omega)
    have h2 : ((jobOut s 0).lv 1).length + (tooS s 0).length = (s.lv 1).length := h2
    rw [if_neg (by omega), if_pos rfl, if_neg (by omega), putL_len, b]
    show 3 * ((jobOut s 0).lv 0).length + 2 * (((jobOut s 0).lv 1).length + 1) + _ + 1 ≤ _
    omega
  · have b := h3 0 (by omega) (by omega)
    have h2 : ((jobOut s 1).lv 2).length + (tooS s 1).length = (s.lv 2).length := h2
    rw [if_neg (by omega), if_neg (by omega), if_pos rfl, putL_len, b]
    show _ + 2 * ((jobOut s 1).lv 1).length + (((jobOut s 1).lv 2).length + 1) + 1 ≤ _
    omega
  · have b := h3 0 (by omega) (by omega)
    have c := h3 1 (by omega) (by omega)
    rw [if_neg (by omega), if_neg (by omega), if_neg (by omega), b, c]
    omega
theorem sizeL_pos {l : List MetaD} (h : ∀ m ∈ l, 1 ≤ m.size) (hne : l ≠ []) : 1 ≤ sizeL l := by
  have key : ∀ (l : List MetaD) (a : Int), (∀ m ∈ l, 1 ≤ m.size) → a + (l.length : Int) ≤ l.foldl (fun n m => n + m.size) a := by
    intro l
    induction l with
    | nil => intro a _; simp
    | cons x l ih =>
      intro a h
      have h1 := h x List.mem_cons_self
      have h2 := ih (a + x.size) fun m hm => h m (List.mem_cons_of_mem _ hm)
      rw [List.foldl_cons, List.length_cons]
      omega
  have := key l 0 h
  have hp : 0 < l.length := List.length_pos_iff.2 hne
  unfold sizeL; omega
theorem grow_count (l : List AddD) : countS (growS l) ≤ 30 := by
  rw [growS_is]
  have step : ∀ (s : StD) (a : AddD), countS (grow1 s a) ≤ countS s + 1 := fun s a => by
    unfold grow1
    split
    · rename_i h
      obtain ⟨ha, he⟩ := docApply_one h
      rw [he]
      have h4 : a.level.toNat < 4 := by
        simp only [addB, Bool.and_eq_true, decide_eq_true_eq] at ha; omega
      unfold countS
      simp only [with_lv]
      obtain e | e | e | e : a.level.toNat = 0 ∨ a.level.toNat = 1 ∨ a.level.toNat = 2 ∨ a.level.toNat = 3 := by omega
      all_goals
        rw [e]
        simp [putL_len]
        omega
    · omega
  have key : ∀ (l : List AddD) (s : StD), countS (l.foldl grow1 s) ≤ countS s + l.length := by
    intro l
    induction l with
    | nil => intro s; exact Nat.le_refl _
    | cons a l ih =>
      intro s
      have h1 := ih (grow1 s a)
      have h2 := step s a
      rw [List.foldl_cons, List.length_cons]; omega
  have h := key (l.take 30) emptyS
  have h0 : countS emptyS = 0 := rfl
  rw [List.length_take] at h
  omega
theorem PickEnds_h (l : List AddD) (a b : Int) (less : List Int) : Hv.ACalls Try.prog 6 [.sl (l.map addH), limH ⟨a, b⟩, .sl (less.map intH)] (.lit (.bool true)) := by
  refine acallsC_of (rs := [.tmp 6]) ⟨[0, 1, 2, 4, 6, 7, 8, 9, 10, 11, 12, 13, 14, 15, 16, 17, 18, 19, 21, 39, 50, 52, 117, 141, 156, 168], [], [], [(15, [(1, [], []), (2, [], []), (4, [], []), (5, [], []), (0, [2, 5], []), (3, [5], [0, 2, 1]), (6, [], [3, 5, 0, 2, 4, 1]), (7, [], [6, 0, 1, 2, 3, 4, 5])]), (16, [(0, [], []), (2, [], []), (4, [], []), (5, [], []), (6, [], []), (7, [], []), (8, [], []), (9, [], []), (10, [], []), (11, [], []), (1, [5, 7, 9, 11], [0]), (3, [5, 7, 9, 11], [2, 1, 0]), (12, [], []), (13, [0, 5, 7, 9, 11], []), (14, [], [13, 12, 3, 0, 1, 2, 4, 5, 6, 7, 8, 9, 10, 11])]), (20, [(0, [], []), (1, [], []), (2, [], []), (3, [], []), (4, [], []), (5, [], []), (6, [], []), (7, [], []), (8, [], []), (9, [], []), (10, [], []), (11, [], []), (12, [], []), (13, [], []), (14, [], []), (15, [], []), (16, [], []), (17, [12, 14], [16, 7, 0, 1, 2, 3, 4, 5, 6, 8, 9]), (18, [], []), (19, [], [18, 15, 17, 0, 1, 2, 3, 4, 5, 6, 7, 8, 9, 10, 11, 12, 13, 14, 16])]), (22, [(0, [], []), (1, [], []), (2, [], []), (3, [], []), (4, [], []), (5, [], []), (6, [], []), (7, [], []), (8, [], []), (9, [], []), (10, [], []), (11, [], []), (12, [], [11, 10, 0, 1, 2, 3, 4, 5, 6, 7, 8, 9])]), (25, [(0, [], []), (1, [], []), (2, [], []), (3, [], []), (4, [0], [1, 3, 2]), (5, [], [0, 4, 1, 3, 2]), (6, [], []), (7, [], []), (8, [], []), (9, [], [7, 5, 0, 1, 2, 3, 4, 6]), (10, [], [8, 9, 0, 1, 2, 3, 4, 5, 6, 7])])], [16, 23, 25]⟩ TOk mixed Try.func6 rfl rfl (by kernel_rfl) (by kernel_rfl) rfl (List.forall_mem_cons.2 ⟨noId_adds l, nid2 (noId_lim _) (noId_ints _)⟩) (.lit _) ?_
  obtain ⟨T, hT, hT1, hT2⟩ := lim_num a (n := 9) (by omega) (by omega)
  obtain ⟨B, hB, hB1, hB2⟩ := lim_num b (n := 2000) (by omega) (by omega)
  have hgr := grown_h l
  have hgd := grow_gd l
  have hw := grow_wf0 l
  have hc := grow_count l
  generalize growS l = S at hgr hgd hw hc
  have hT : IntKind.i64.wrap (1 + IntKind.i64.wrap ((IntKind.u64.wrap a).tmod 9)) = T := hT
  have hB : IntKind.i64.wrap (1 + IntKind.i64.wrap ((IntKind.u64.wrap b).tmod 2000)) = B := hB
  have hlim : limB ⟨T, B⟩ = true := by
    simp only [limB, Bool.and_eq_true, decide_eq_true_eq]; omega
  have hto := to19_h S (fun n hn => Nat.le_trans (hgd.few n hn) (by omega))
  have hpot : pot S ≤ 90 := by unfold countS at hc; unfold pot; omega
  unfold stH at hgr hto
  simp only [push_cast, Nat.reduceBEq, Nat.reduceAdd, Nat.reduceEqDiff, reduceCtorEq, Nat.reduceLeDiff, Nat.reduceSub, Nat.reduceMul, Nat.reduceLT, Int.reduceEq, Int.reduceLT, Int.reduceLE, Int.reduceBEq, Int.reduceBNe, Int.reduceToNat, Int.reduceNeg, Int.reduceSub, Int.reduceAdd, limH]
  refine callK picks_h ?_
  simp only [push_cast, Nat.reduceBEq, Nat.reduceAdd, Nat.reduceEqDiff, reduceCtorEq, Nat.reduceLeDiff, Nat.reduceSub, Nat.reduceMul, Nat.reduceLT, Int.reduceEq, Int.reduceLT, Int.reduceLE, Int.reduceBEq, Int.reduceBNe, Int.reduceToNat, Int.reduceNeg, Int.reduceSub, Int.reduceAdd]
  refine callK hgr ?_
  simp only [push_cast, Nat.reduceBEq, Nat.reduceAdd, Nat.reduceEqDiff, reduceCtorEq, Nat.reduceLeDiff, Nat.reduceSub, Nat.reduceMul, Nat.reduceLT, Int.reduceEq, Int.reduceLT, Int.reduceLE, Int.reduceBEq, Int.reduceBNe, Int.reduceToNat, Int.reduceNeg, Int.reduceSub, Int.reduceAdd]
  refine callK hto ?_
  simp only [push_cast, Nat.reduceBEq, Nat.reduceAdd, Nat.reduceEqDiff, reduceCtorEq, Nat.reduceLeDiff, Nat.reduceSub, Nat.reduceMul, Nat.reduceLT, Int.reduceEq, Int.reduceLT, Int.reduceLE, Int.reduceBEq, Int.reduceBNe, Int.reduceToNat, Int.reduceNeg, Int.reduceSub, Int.reduceAdd, hT, hB]
  refine loopK (fun m x => ∃ (r nx : Nat) (S : StD) (H : Hp), x = ⟨[(2, .sl (less.map intH)), (7, .ptr 1 0), (8, .ptr 2 0), (9, .lit (.int .i64 (r : Int)))], H, nx⟩ ∧ m = pot S ∧ r + pot S ≤ 90 ∧ 3 ≤ nx ∧ Wf0 S ∧ countS S ≤ 30 ∧ H 1 = some (.cells (stCells S)) ∧ H 2 = some (.cells [.lit (.int .i64 T), .lit (.int .i64 B)])) _ [2, 7, 8, 9] (by exact ⟨0, 3, S, _, rfl, rfl, by omega, by omega, hw, hc, rfl, rfl⟩) ?_
  clear hgr hgd hw hc hto hpot hT hB S
  rintro m _ ⟨r, nx, S, H, rfl, rfl, hr, hnx3, hw, hc, r1, r2⟩
  have hr200 : (r : Int) < 200 := by omega
  have hgd : Gd S 30 := ⟨hw.good, fun n hn => by
    unfold countS at hc
    obtain rfl | rfl | rfl | rfl : n = 0 ∨ n = 1 ∨ n = 2 ∨ n = 3 := by omega
    · omega
    · omega
    · omega
    · omega⟩
  have hnx := next_h S ⟨T, B⟩ hgd
  have r1' := r1
  unfold stCells at r1
  have e0 : (nx == 0) = false := neB (by omega)
  have e1 : (nx == 1) = false := neB (by omega)
  have e2 : (nx == 2) = false := neB (by omega)
  unfold stH limH at hnx
  simp only [push_cast, Nat.reduceBEq, Nat.reduceAdd, Nat.reduceEqDiff, reduceCtorEq, Nat.reduceLeDiff, Nat.reduceSub, Nat.reduceMul, Nat.reduceLT, Int.reduceEq, Int.reduceLT, Int.reduceLE, Int.reduceBEq, Int.reduceBNe, Int.reduceToNat, Int.reduceNeg, Int.reduceSub, Int.reduceAdd, hr200, r1, r2]
  rcases next_none (s := S) hlim with ⟨hno, hfull⟩ | ⟨n, hn, hjob, hfull⟩
  · rw [hno] at hnx
    unfold jobH noJ at hnx
    refine callK hnx ?_
    have f1 := full_h ⟨T, B⟩ 1
    have f2 := full_h ⟨T, B⟩ 2
    have g1 : fullD ⟨T, B⟩ 1 = (B, 0) := by unfold fullD; rw [if_neg (by rw [hlim]; decide)]; rfl
    have g2 : fullD ⟨T, B⟩ 2 = (8 * B, 0) := by unfold fullD; rw [if_neg (by rw [hlim]; decide)]; rfl
    rw [g1] at f1
    rw [g2] at f2
    unfold limH at f1 f2
    have q0 : ((S.lv 0).length : Int) < T := by
      have := hfull 0 (by omega)
      have g0 : (fullD ⟨T, B⟩ ((0 : Nat) : Int)).1 = T := by unfold fullD; rw [if_neg (by rw [hlim]; decide)]; rfl
      rw [g0] at this
      unfold fullB at this
      simp at this
      exact this
    have hs : ∀ k, ∀ m ∈ S.lv k, 0 ≤ m.size ∧ m.size ≤ 1048576 := fun k m hm => by
      have := tableB_bd (hw.good k m hm); omega
    have y1 := bytes_h (S.lv 1) (Nat.le_trans (hgd.few 1 (by omega)) (by omega)) (hs 1)
    have y2 := bytes_h (S.lv 2) (Nat.le_trans (hgd.few 2 (by omega)) (by omega)) (hs 2)
    have q1 : sizeL (S.lv 1) ≤ B := by
      have := hfull 1 (by omega)
      have g0 : (fullD ⟨T, B⟩ ((1 : Nat) : Int)).1 = B := by rw [show ((1 : Nat) : Int) = 1 from rfl, g1]
      rw [g0] at this
      unfold fullB at this
      simp at this
      exact this
    have q2 : sizeL (S.lv 2) ≤ 8 * B := by
      have := hfull 2 (by omega)
      have g0 : (fullD ⟨T, B⟩ ((2 : Nat) : Int)).1 = 8 * B := by rw [show ((2 : Nat) : Int) = 2 from rfl, g2]
      rw [g0] at this
      unfold fullB at this
      simp at this
      exact this
    simp only [push_cast, Nat.reduceBEq, Nat.reduceAdd, Nat.reduceEqDiff, reduceCtorEq, Nat.reduceLeDiff, Nat.reduceSub, Nat.reduceMul, Nat.reduceLT, Int.reduceEq, Int.reduceLT, Int.reduceLE, Int.reduceBEq, Int.reduceBNe, Int.reduceToNat, Int.reduceNeg, Int.reduceSub, Int.reduceAdd, r1, r2, e0, e1, e2]
    refine callK f1 ?_
    simp only [push_cast, Nat.reduceBEq, Nat.reduceAdd, Nat.reduceEqDiff, reduceCtorEq, Nat.reduceLeDiff, Nat.reduceSub, Nat.reduceMul, Nat.reduceLT, Int.reduceEq, Int.reduceLT, Int.reduceLE, Int.reduceBEq, Int.reduceBNe, Int.reduceToNat, Int.reduceNeg, Int.reduceSub, Int.reduceAdd, r1, r2, e0, e1, e2]
    refine callK f2 ?_
    simp only [push_cast, Nat.reduceBEq, Nat.reduceAdd, Nat.reduceEqDiff, reduceCtorEq, Nat.reduceLeDiff, Nat.reduceSub, Nat.reduceMul, Nat.reduceLT, Int.reduceEq, Int.reduceLT, Int.reduceLE, Int.reduceBEq, Int.reduceBNe, Int.reduceToNat, Int.reduceNeg, Int.reduceSub, Int.reduceAdd, r1, r2, e0, e1, e2, q0]
    refine callK y1 ?_
    simp only [push_cast, Nat.reduceBEq, Nat.reduceAdd, Nat.reduceEqDiff, reduceCtorEq, Nat.reduceLeDiff, Nat.reduceSub, Nat.reduceMul, Nat.reduceLT, Int.reduceEq, Int.reduceLT, Int.reduceLE, Int.reduceBEq, Int.reduceBNe, Int.reduceToNat, Int.reduceNeg, Int.reduceSub, Int.reduceAdd, r1, r2, e0, e1, e2, q0, q1]
    refine callK y2 ?_
    simp only [push_cast, Nat.reduceBEq, Nat.reduceAdd, Nat.reduceEqDiff, reduceCtorEq, Nat.reduceLeDiff, Nat.reduceSub, Nat.reduceMul, Nat.reduceLT, Int.reduceEq, Int.reduceLT, Int.reduceLE, Int.reduceBEq, Int.reduceBNe, Int.reduceToNat, Int.reduceNeg, Int.reduceSub, Int.reduceAdd, r1, r2, e0, e1, e2, q0, q1, q2]
  · rw [hjob] at hnx
    have hne := full_ne hlim hn hfull
    have hA0 := allJ_ne hne
    have hAg := allJ_good hw hne
    have hfew : (S.lv n).length ≤ 30 ∧ (S.lv (n + 1)).length ≤ 30 := ⟨hgd.few n (by omega), hgd.few (n + 1) (by omega)⟩
    have hcnt := job_count hw hn hne
    obtain ⟨j, hj⟩ : ∃ j, jobS S n = j := ⟨_, rfl⟩
    rw [hj] at hnx
    have hjl : j.level = (n : Int) := by rw [← hj]; rfl
    have hjf : j.frm = frmS S n := by rw [← hj]; rfl
    have hjt : j.too = tooS S n := by rw [← hj]; rfl
    have hAd : j.frm ++ j.too = allJ S n := by rw [hjf, hjt]; rfl
    have hfl : j.frm.length ≤ 30 := by rw [hjf]; omega
    have htl : j.too.length ≤ 30 := by rw [hjt]; omega
    obtain ⟨u1, u2, u3⟩ := unused_ok hw (by omega)
    have hun := unused_h S hw.uq (fun i hi => Nat.le_trans (hgd.few i hi) (by omega))
    have hdone : ∀ z : Int, 1 ≤ z ∧ z ≤ 1048576 → ∃ S' : StD, Wf0 S' ∧ countS S' ≤ 30 ∧ pot S' + 1 ≤ pot S ∧ Hv.ACalls Try.prog 31 [stH S, edH (doneE j [⟨unusedZ (filesS S), z, spanA (allJ S n), spanZ (allJ S n)⟩])] (.tup [stH S', .lit (.int .i64 0)]) ∧
        Hv.ACalls Try.prog 27 [jobH j, .sl [metaH ⟨unusedZ (filesS S), z, spanA (allJ S n), spanZ (allJ S n)⟩]] (edH (doneE j [⟨unusedZ (filesS S), z, spanA (allJ S n), spanZ (allJ S n)⟩])) := fun z hz => by
      obtain ⟨o1, o2⟩ := done_one hw hn hne (by omega) ⟨u1, u2⟩ hz u3
      have ao := apply_h S (doneE (jobS S n) [oneM S n (unusedZ (filesS S)) z]) hw (fun i hi => Nat.le_trans (hgd.few i hi) (by omega))
      rw [o1] at ao
      rw [hj] at ao o2 o1
      have co := count_one hw hn hne o2
      have hAl : 1 ≤ (allJ S n).length := List.length_pos_iff.2 hA0
      exact ⟨_, docApply_wf0 hw o1, by omega, pot_one hw hn hne o2, ao, done_h j [_] (by rw [hjl]; omega) (by omega) (by omega) (by simp)⟩
    obtain ⟨A, hA⟩ : ∃ A, allJ S n = A := ⟨_, rfl⟩
    rw [hA] at hA0 hAd hAg hdone
    have hAl : j.frm.length + j.too.length = A.length := by rw [← hAd, List.length_append]
    have hAm : List.map metaH j.frm ++ List.map metaH j.too = List.map metaH A := by rw [← hAd, List.map_append]
    have hy := bytes_h A (by omega) (fun m hm => by have := tableB_bd (hAg m hm); omega)
    have hs1 := sizeL_pos (fun m hm => by have := tableB_bd (hAg m hm); omega) hA0
    have hs2 := (sizeL_bd A (fun m hm => by have := tableB_bd (hAg m hm); omega)).2
    have hAn : A.length ≤ 60 := by omega
    obtain ⟨hd, h0, hsA, hsZ⟩ : ∃ x, A[0]? = some x ∧ spanA A = minF x.first A ∧ spanZ A = maxF x.last A := by
      cases A with
      | nil => exact absurd rfl hA0
      | cons x l => exact ⟨x, rfl, rfl, rfl⟩
    clear hA hcnt hfew hjf hjt hj hjob hfull hAd u3 hne hAg
    generalize unusedZ (filesS S) = U at *
    obtain ⟨lv, frm, too, bot⟩ := j
    simp only at hjl hfl htl hAl hAm
    unfold jobH at hnx hdone
    simp only at hnx hdone
    have ih1 : ∀ z, (metaH z).length = 4 := fun _ => rfl
    have ih2 : ∀ z, (metaH z).all AV.isOne = true := fun _ => rfl
    have b1 : frm.length * 48 ≤ 140737488355328 := by omega
    have b2 : (frm.length + too.length) * 48 ≤ 140737488355328 := by omega
    have b3 : A.length * 48 ≤ 140737488355328 := by omega
    have d1 : (nx == nx + 1) = false := neB (by omega)
    have d2 : (nx + 1 == nx) = false := neB (by omega)
    have d3 : (nx + 1 + 1 == nx) = false := neB (by omega)
    have d4 : (nx + 1 == nx + 1 + 1) = false := neB (by omega)
    have d5 : (nx + 1 + 1 == nx + 1) = false := neB (by omega)
    refine callK hnx ?_
    simp only [push_cast, Nat.reduceBEq, Nat.reduceAdd, Nat.reduceEqDiff, reduceCtorEq, Nat.reduceLeDiff, Nat.reduceSub, Nat.reduceMul, Nat.reduceLT, Int.reduceEq, Int.reduceLT, Int.reduceLE, Int.reduceBEq, Int.reduceBNe, Int.reduceToNat, Int.reduceNeg, Int.reduceSub, Int.reduceAdd, r1, r2, e0, e1, e2]
    refine cutK (fun x => ∃ H, x = ⟨[(2, .sl (less.map intH)), (7, .ptr 1 0), (8, .ptr 2 0), (9, .lit (.int .i64 (r : Int))), (10, .ptr nx 0), (17, .rw (nx + 1 + 1 + 1) 4 0 A.length)], H, nx + 1 + 1 + 1 + 1⟩ ∧ H 1 = some (.cells (stCells S)) ∧ H 2 = some (.cells [.lit (.int .i64 T), .lit (.int .i64 B)]) ∧ H nx = some (.cells [.lit (.int .i64 lv), .sl (frm.map metaH), .sl (too.map metaH), .lit (.bool bot)]) ∧ H (nx + 1 + 1 + 1) = some (.row false 51 (A.map metaH))) [2, 7, 8, 9, 10, 17] ?_ ?_
    · simp only [push_cast, Nat.reduceBEq, Nat.reduceAdd, Nat.reduceEqDiff, reduceCtorEq, Nat.reduceLeDiff, Nat.reduceSub, Nat.reduceMul, Nat.reduceLT, Int.reduceEq, Int.reduceLT, Int.reduceLE, Int.reduceBEq, Int.reduceBNe, Int.reduceToNat, Int.reduceNeg, Int.reduceSub, Int.reduceAdd, ih1, ih2, b1, b2, b3, hAm, hAl, List.not_mem_nil, false_implies, implies_true, e0, e1, e2, d1, d2, d3, d4, d5]
      refine ⟨_, rfl, ?_, ?_, ?_, ?_⟩
      · (repeat rw [upd_other (by omega)]); exact r1'
      · (repeat rw [upd_other (by omega)]); exact r2
      · (repeat rw [upd_other (by omega)]); exact upd_same _ _ _
      · exact upd_same _ _ _
    · clear r1 r1' r2 d1 d2 d3 d4 d5 e0 e1 e2 hnx
      rintro _ ⟨H, rfl, r1', r2, rj, ra⟩
      have r1 := r1'
      unfold stCells at r1
      have hAp : (0 : Int) < (A.length : Int) := by
        have := (List.getElem?_eq_some_iff.1 h0).1
        omega
      unfold stH at hun
      simp only [push_cast, Nat.reduceBEq, Nat.reduceAdd, Nat.reduceEqDiff, reduceCtorEq, Nat.reduceLeDiff, Nat.reduceSub, Nat.reduceMul, Nat.reduceLT, Int.reduceEq, Int.reduceLT, Int.reduceLE, Int.reduceBEq, Int.reduceBNe, Int.reduceToNat, Int.reduceNeg, Int.reduceSub, Int.reduceAdd, r1, ra, h0, hAp, metaH]
      refine callD hun ?_
      have t5 : List.take A.length (List.map metaH A) = List.map metaH A := List.take_of_length_le (by simp)
      obtain ⟨g, hg⟩ : ∃ g, nx + 1 + 1 + 1 = g := ⟨_, rfl⟩
      rw [hg] at ra
      rw [hg]
      have g1 : (g + 1 == 1) = false := neB (by omega)
      have g2 : (g + 1 == 2) = false := neB (by omega)
      have g3 : (g + 1 == nx) = false := neB (by omega)
      have g4 : (g + 1 == g) = false := neB (by omega)
      simp only [push_cast, Nat.reduceBEq, Nat.reduceAdd, Nat.reduceEqDiff, reduceCtorEq, Nat.reduceLeDiff, Nat.reduceSub, Nat.reduceMul, Nat.reduceLT, Int.reduceEq, Int.reduceLT, Int.reduceLE, Int.reduceBEq, Int.reduceBNe, Int.reduceToNat, Int.reduceNeg, Int.reduceSub, Int.reduceAdd, r1, ra, h0, hAp, metaH, g1, g2, g3, g4]
      refine callD (by simp only [push_cast, Nat.reduceBEq, Nat.reduceAdd, Nat.reduceEqDiff, reduceCtorEq, Nat.reduceLeDiff, Nat.reduceSub, Nat.reduceMul, Nat.reduceLT, Int.reduceEq, Int.reduceLT, Int.reduceLE, Int.reduceBEq, Int.reduceBNe, Int.reduceToNat, Int.reduceNeg, Int.reduceSub, Int.reduceAdd, ra, t5, g1, g2, g3, g4]; exact hy) ?_
      simp only [push_cast, Nat.reduceBEq, Nat.reduceAdd, Nat.reduceEqDiff, reduceCtorEq, Nat.reduceLeDiff, Nat.reduceSub, Nat.reduceMul, Nat.reduceLT, Int.reduceEq, Int.reduceLT, Int.reduceLE, Int.reduceBEq, Int.reduceBNe, Int.reduceToNat, Int.reduceNeg, Int.reduceSub, Int.reduceAdd, r1, ra, h0, hAp, metaH, g1, g2, g3, g4]
      have hmem : ∀ z, upd (upd H (g + 1) z) (g + 1) (some (.cells [.lit (.int .i64 U), .lit (.int .i64 (sizeL A)), .lit (.string hd.first), .lit (.string hd.last)])) (g + 1) = some (.cells [.lit (.int .i64 U), .lit (.int .i64 (sizeL A)), .lit (.string hd.first), .lit (.string hd.last)]) := fun z => upd_same _ _ _
      refine loopK (fun m x => ∃ (k : Nat) (H : Hp), x = ⟨[(2, .sl (less.map intH)), (7, .ptr 1 0), (8, .ptr 2 0), (9, .lit (.int .i64 (r : Int))), (10, .ptr nx 0), (17, .rw g 4 0 A.length), (18, .ptr (g + 1) 0), (19, .lit (.int .i64 (k : Int)))], H, g + 1 + 1⟩ ∧ k ≤ A.length ∧ m = A.length - k ∧ H 1 = some (.cells (stCells S)) ∧ H 2 = some (.cells [.lit (.int .i64 T), .lit (.int .i64 B)]) ∧ H nx = some (.cells [.lit (.int .i64 lv), .sl (frm.map metaH), .sl (too.map metaH), .lit (.bool bot)]) ∧ H g = some (.row false 51 (A.map metaH)) ∧ H (g + 1) = some (.cells [.lit (.int .i64 U), .lit (.int .i64 (sizeL A)), .lit (.string (minF hd.first (A.take k))), .lit (.string (maxF hd.last (A.take k)))])) _ [2, 7, 8, 9, 10, 17, 18, 19]
        (by exact ⟨0, _, rfl, by omega, rfl, (upd_other (by omega)).trans ((upd_other (by omega)).trans r1'), (upd_other (by omega)).trans ((upd_other (by omega)).trans r2), (upd_other (by omega)).trans ((upd_other (by omega)).trans rj), (upd_other (by omega)).trans ((upd_other (by omega)).trans ra), hmem _⟩) ?_
      clear r1 r1' r2 rj ra hmem H
      rintro m _ ⟨k, H, rfl, hk, rfl, r1', r2, rj, ra, rm⟩
      have r1 := r1'
      unfold stCells at r1
      by_cases h : k < A.length
      · obtain ⟨x, hx⟩ : ∃ x, A[k]? = some x := ⟨_, List.getElem?_eq_getElem h⟩
        have hwk := wrap_nat (k := k) (by omega)
        have hmin : Hv.smin (minF hd.first (A.take k)) x.first = minF hd.first (A.take (k + 1)) := by
          rw [smin_is, List.take_add_one, hx, minF_append]; rfl
        have hmax : Hv.smax (maxF hd.last (A.take k)) x.last = maxF hd.last (A.take (k + 1)) := by
          rw [smax_is, List.take_add_one, hx, maxF_append]; rfl
        simp only [push_cast, Nat.reduceBEq, Nat.reduceAdd, Nat.reduceEqDiff, reduceCtorEq, Nat.reduceLeDiff, Nat.reduceSub, Nat.reduceMul, Nat.reduceLT, Int.reduceEq, Int.reduceLT, Int.reduceLE, Int.reduceBEq, Int.reduceBNe, Int.reduceToNat, Int.reduceNeg, Int.reduceSub, Int.reduceAdd, h, ra, rm, hx, metaH, hmin, hmax, hwk, g4]
        exact ⟨_, by omega, k + 1, upd (upd H (g + 1) _) (g + 1) _, rfl, by omega, rfl, (upd_other (by omega)).trans ((upd_other (by omega)).trans r1'), (upd_other (by omega)).trans ((upd_other (by omega)).trans r2), (upd_other (by omega)).trans ((upd_other (by omega)).trans rj), (upd_other (by omega)).trans ((upd_other (by omega)).trans ra), upd_same _ _ _⟩
      · obtain rfl : k = A.length := by omega
        have hnA : ¬ (A.length : Int) < (A.length : Int) := by omega
        rw [List.take_length, ← hsA, ← hsZ] at rm
        simp only [push_cast, Nat.reduceBEq, Nat.reduceAdd, Nat.reduceEqDiff, reduceCtorEq, Nat.reduceLeDiff, Nat.reduceSub, Nat.reduceMul, Nat.reduceLT, Int.reduceEq, Int.reduceLT, Int.reduceLE, Int.reduceBEq, Int.reduceBNe, Int.reduceToNat, Int.reduceNeg, Int.reduceSub, Int.reduceAdd, hnA]
        have hsz : sizeL A ≤ 62914560 := by omega
        refine cutK (fun x => ∃ (z : Int) (H : Hp), 1 ≤ z ∧ z ≤ 62914560 ∧ x = ⟨[(2, .sl (less.map intH)), (7, .ptr 1 0), (8, .ptr 2 0), (9, .lit (.int .i64 (r : Int))), (10, .ptr nx 0), (18, .ptr (g + 1) 0)], H, g + 1 + 1⟩ ∧ H 1 = some (.cells (stCells S)) ∧ H 2 = some (.cells [.lit (.int .i64 T), .lit (.int .i64 B)]) ∧ H nx = some (.cells [.lit (.int .i64 lv), .sl (frm.map metaH), .sl (too.map metaH), .lit (.bool bot)]) ∧ H (g + 1) = some (.cells [.lit (.int .i64 U), .lit (.int .i64 z), .lit (.string (spanA A)), .lit (.string (spanZ A))])) [2, 7, 8, 9, 10, 18] ?_ ?_
        · by_cases hrl : r < less.length
          · obtain ⟨y, hy⟩ : ∃ y, less[r]? = some y := ⟨_, List.getElem?_eq_getElem hrl⟩
            obtain ⟨z, hz, hz1, hz2⟩ := lim_num y (n := (sizeL A).toNat) (by omega) (by omega)
            have hzA : ((sizeL A).toNat : Int) = sizeL A := by omega
            rw [hzA] at hz hz2
            have hu : IntKind.u64.wrap (sizeL A) = sizeL A := IntWalk.u64_in _ (by omega)
            have hn0 : ¬ sizeL A = 0 := by omega
            simp only [push_cast, Nat.reduceBEq, Nat.reduceAdd, Nat.reduceEqDiff, reduceCtorEq, Nat.reduceLeDiff, Nat.reduceSub, Nat.reduceMul, Nat.reduceLT, Int.reduceEq, Int.reduceLT, Int.reduceLE, Int.reduceBEq, Int.reduceBNe, Int.reduceToNat, Int.reduceNeg, Int.reduceSub, Int.reduceAdd, hrl, hy, intH, rm, hu, hn0, hz]
            exact ⟨z, upd H (g + 1) _, hz1, by omega, rfl, (upd_other (by omega)).trans r1', (upd_other (by omega)).trans r2, (upd_other (by omega)).trans rj, upd_same _ _ _⟩
          · have hrl' : ¬ (r : Int) < (less.length : Int) := by omega
            simp only [push_cast, Nat.reduceBEq, Nat.reduceAdd, Nat.reduceEqDiff, reduceCtorEq, Nat.reduceLeDiff, Nat.reduceSub, Nat.reduceMul, Nat.reduceLT, Int.reduceEq, Int.reduceLT, Int.reduceLE, Int.reduceBEq, Int.reduceBNe, Int.reduceToNat, Int.reduceNeg, Int.reduceSub, Int.reduceAdd, hrl']
            exact ⟨sizeL A, H, hs1, hsz, rfl, r1', r2, rj, rm⟩
        · clear r1 r1' r2 rj ra rm H
          rintro _ ⟨z, H, z1, z2, rfl, r1', r2, rj, rm⟩
          simp only [push_cast, Nat.reduceBEq, Nat.reduceAdd, Nat.reduceEqDiff, reduceCtorEq, Nat.reduceLeDiff, Nat.reduceSub, Nat.reduceMul, Nat.reduceLT, Int.reduceEq, Int.reduceLT, Int.reduceLE, Int.reduceBEq, Int.reduceBNe, Int.reduceToNat, Int.reduceNeg, Int.reduceSub, Int.reduceAdd]
          refine cutK (fun x => ∃ (z : Int) (H : Hp), 1 ≤ z ∧ z ≤ 1048576 ∧ x = ⟨[(2, .sl (less.map intH)), (7, .ptr 1 0), (8, .ptr 2 0), (9, .lit (.int .i64 (r : Int))), (10, .ptr nx 0), (18, .ptr (g + 1) 0)], H, g + 1 + 1⟩ ∧ H 1 = some (.cells (stCells S)) ∧ H 2 = some (.cells [.lit (.int .i64 T), .lit (.int .i64 B)]) ∧ H nx = some (.cells [.lit (.int .i64 lv), .sl (frm.map metaH), .sl (too.map metaH), .lit (.bool bot)]) ∧ H (g + 1) = some (.cells [.lit (.int .i64 U), .lit (.int .i64 z), .lit (.string (spanA A)), .lit (.string (spanZ A))])) [2, 7, 8, 9, 10, 18] ?_ ?_
          · by_cases hz : z > 1048576
            · simp only [push_cast, Nat.reduceBEq, Nat.reduceAdd, Nat.reduceEqDiff, reduceCtorEq, Nat.reduceLeDiff, Nat.reduceSub, Nat.reduceMul, Nat.reduceLT, Int.reduceEq, Int.reduceLT, Int.reduceLE, Int.reduceBEq, Int.reduceBNe, Int.reduceToNat, Int.reduceNeg, Int.reduceSub, Int.reduceAdd, rm, hz]
              exact ⟨1048576, upd H (g + 1) _, by omega, by omega, rfl, (upd_other (by omega)).trans r1', (upd_other (by omega)).trans r2, (upd_other (by omega)).trans rj, upd_same _ _ _⟩
            · simp only [push_cast, Nat.reduceBEq, Nat.reduceAdd, Nat.reduceEqDiff, reduceCtorEq, Nat.reduceLeDiff, Nat.reduceSub, Nat.reduceMul, Nat.reduceLT, Int.reduceEq, Int.reduceLT, Int.reduceLE, Int.reduceBEq, Int.reduceBNe, Int.reduceToNat, Int.reduceNeg, Int.reduceSub, Int.reduceAdd, rm, hz]
              exact ⟨z, H, z1, by omega, rfl, r1', r2, rj, rm⟩
          · clear r1' r2 rj rm H
            rintro _ ⟨z, H, z1, z2, rfl, r1', r2, rj, rm⟩
            have r1 := r1'
            unfold stCells at r1
            obtain ⟨S', hw', hc', hp', hap, hdn⟩ := hdone z ⟨z1, z2⟩
            unfold edH at hap hdn
            unfold stH at hap
            have hwr := wrap_nat (k := r) (by omega)
            simp only [push_cast, Nat.reduceBEq, Nat.reduceAdd, Nat.reduceEqDiff, reduceCtorEq, Nat.reduceLeDiff, Nat.reduceSub, Nat.reduceMul, Nat.reduceLT, Int.reduceEq, Int.reduceLT, Int.reduceLE, Int.reduceBEq, Int.reduceBNe, Int.reduceToNat, Int.reduceNeg, Int.reduceSub, Int.reduceAdd, r1, rj, rm]
            refine callD hdn ?_
            simp only [push_cast, Nat.reduceBEq, Nat.reduceAdd, Nat.reduceEqDiff, reduceCtorEq, Nat.reduceLeDiff, Nat.reduceSub, Nat.reduceMul, Nat.reduceLT, Int.reduceEq, Int.reduceLT, Int.reduceLE, Int.reduceBEq, Int.reduceBNe, Int.reduceToNat, Int.reduceNeg, Int.reduceSub, Int.reduceAdd, r1, rj, rm]
            refine callD hap ?_
            simp only [push_cast, Nat.reduceBEq, Nat.reduceAdd, Nat.reduceEqDiff, reduceCtorEq, Nat.reduceLeDiff, Nat.reduceSub, Nat.reduceMul, Nat.reduceLT, Int.reduceEq, Int.reduceLT, Int.reduceLE, Int.reduceBEq, Int.reduceBNe, Int.reduceToNat, Int.reduceNeg, Int.reduceSub, Int.reduceAdd, r1, rj, rm, hwr]
            exact ⟨pot S', by omega, r + 1, g + 1 + 1, S', upd H 1 _, rfl, rfl, by omega, by omega, hw', hc', upd_same _ _ _, (upd_other (by decide)).trans r2⟩
end Go.Proofs.Ytheanmfdfoefoaa
