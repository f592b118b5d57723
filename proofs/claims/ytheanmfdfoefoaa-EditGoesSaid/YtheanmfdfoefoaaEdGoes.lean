/- Chapter 17's statements: EditGoes, by the walk over a heap. -/
import Derived.Test.YtheanmfdfoefoaaEdLaws
import Derived.Test.YtheanmfdfoefoaaEdGoesP
import Derived.Test.YtheanmfdfoefoaaEdElems
set_option linter.unusedVariables false
set_option linter.unusedSimpArgs false
namespace Go.Proofs.Ytheanmfdfoefoaa
open Go Go.RowKit Hv
set_option maxRecDepth 20000
set_option maxHeartbeats 8000000

theorem log_num (z : Int) : ∃ g : Int, IntKind.i64.wrap (1 + IntKind.i64.wrap ((IntKind.u64.wrap z).tmod 1000)) = g ∧ (1 ≤ g ∧ g ≤ 1000) := by
  have h0 : 0 ≤ IntKind.u64.wrap z := by
    simp only [IntKind.wrap, IntKind.signed, IntKind.bits]
    have := Int.emod_nonneg z (show (2 : Int) ^ 64 ≠ 0 by decide)
    simpa using this
  have h1 : 0 ≤ (IntKind.u64.wrap z).tmod 1000 := Int.tmod_nonneg _ h0
  have h2 : (IntKind.u64.wrap z).tmod 1000 < 1000 := Int.tmod_lt_of_pos _ (by decide)
  refine ⟨1 + (IntKind.u64.wrap z).tmod 1000, ?_, by omega, by omega⟩
  rw [IntWalk.i64_in ((IntKind.u64.wrap z).tmod 1000) (by omega), IntWalk.i64_in _ (by omega)]
theorem EditGoes_h (l : List AddD) (z : Int) : Hv.ACalls Try.prog 8 [.sl (l.map addH), .lit (.int .i64 z)] (.lit (.bool true)) := by
  refine acallsC_of (rs := [.tmp 4]) ⟨[0, 1, 4, 5, 6, 7, 8, 9, 11, 13, 15, 36, 41, 85], [], [], [(12, [(0, [], []), (1, [], []), (2, [], []), (3, [], []), (4, [], []), (5, [], []), (6, [], []), (7, [], []), (8, [], []), (9, [], []), (10, [], []), (11, [], []), (12, [], []), (13, [], []), (14, [], []), (15, [], [1, 14, 0, 13, 6, 12, 5, 11, 4, 10, 2, 3, 9, 7, 8]), (16, [], []), (17, [], [16, 15, 0, 1, 2, 3, 4, 5, 6, 7, 8, 9, 10, 11, 12, 13, 14])]), (13, [(0, [], []), (1, [], []), (2, [0], [1]), (3, [], [0, 2, 1]), (4, [], []), (5, [], []), (6, [], []), (7, [0, 1], []), (8, [], [7, 5, 3, 0, 1, 2, 4]), (9, [], [6, 8, 0, 1, 2, 3, 4, 5, 7])]), (14, [(0, [], []), (1, [], []), (2, [0], [1]), (3, [], [0, 2, 1]), (4, [], []), (5, [], []), (6, [], []), (7, [0, 1], []), (8, [], [7, 5, 3, 0, 1, 2, 4]), (9, [], [6, 8, 0, 1, 2, 3, 4, 5, 7])]), (15, [(0, [], []), (1, [], []), (2, [], []), (3, [], []), (4, [0], [3, 2, 1]), (5, [], [0, 4, 3, 2, 1]), (6, [], []), (7, [], []), (8, [], []), (9, [0], []), (10, [], [9, 7, 5, 0, 1, 2, 3, 4, 6]), (11, [], [8, 10, 0, 1, 2, 3, 4, 5, 6, 7, 9])])]⟩ TOk mixed Try.func8 rfl rfl (by kernel_rfl) (by kernel_rfl) rfl (nid2 (noId_adds l) (.lit _)) (.lit _) ?_
  simp only [push_cast, Nat.reduceBEq, Nat.reduceAdd, Nat.reduceEqDiff, reduceCtorEq, Nat.reduceLeDiff, Nat.reduceSub, Nat.reduceMul, Nat.reduceLT, Int.reduceEq, Int.reduceLT, Int.reduceLE, Int.reduceBEq, Int.reduceBNe, Int.reduceToNat, Int.reduceNeg, Int.reduceSub, Int.reduceAdd]
  refine callK edits_h ?_
  obtain ⟨m, hm, hml, hm20⟩ : ∃ m : Nat, (if (20 : Int) < (l.length : Int) then (20 : Int) else (l.length : Int)) = (m : Int) ∧ m ≤ l.length ∧ m ≤ 20 := by
    by_cases h : (20 : Int) < (l.length : Int)
    · exact ⟨20, by rw [if_pos h]; rfl, by omega, by omega⟩
    · exact ⟨l.length, by rw [if_neg h], by omega, by omega⟩
  have hal : (∀ j : AddD, j ∈ l → (addH j).length = 5) = True := eq_true fun _ _ => rfl
  obtain ⟨log, hlg, hlog⟩ := log_num z
  have htk : List.take m (List.map addH l) = (l.take m).map addH := List.map_take.symm
  obtain ⟨L, hL⟩ : ∃ L, l.take m = L := ⟨_, rfl⟩
  have hLl : L.length ≤ 20 := by rw [← hL, List.length_take]; omega
  rw [hL] at htk
  simp only [push_cast, Nat.reduceBEq, Nat.reduceAdd, Nat.reduceEqDiff, reduceCtorEq, Nat.reduceLeDiff, Nat.reduceSub, Nat.reduceMul, Nat.reduceLT, Int.reduceEq, Int.reduceLT, Int.reduceLE, Int.reduceBEq, Int.reduceBNe, Int.reduceToNat, Int.reduceNeg, Int.reduceSub, Int.reduceAdd, hm, hml, hal, htk, hlg]
  clear hm hml hal htk hlg hL
  have hto := to_h (goE L log) (Nat.zero_le _) (by show L.length ≤ 1000000; omega)
  have hA := apply_h emptyS (goE L log) empty_wf0 (fun _ _ => Nat.zero_le _)
  have hlaw := goes_law (tables := L) hlog hLl
  have hwf := docApply_wf0 (s := emptyS) (e := goE L log) empty_wf0
  obtain ⟨r, hr⟩ : ∃ r, (docApply emptyS (goE L log)).2 = r := ⟨_, rfl⟩
  obtain ⟨s, hs⟩ : ∃ s, (docApply emptyS (goE L log)).1 = s := ⟨_, rfl⟩
  rw [hr, hs] at hA hlaw hwf
  refine callK hto ?_
  simp only [push_cast, Nat.reduceBEq, Nat.reduceAdd, Nat.reduceEqDiff, reduceCtorEq, Nat.reduceLeDiff, Nat.reduceSub, Nat.reduceMul, Nat.reduceLT, Int.reduceEq, Int.reduceLT, Int.reduceLE, Int.reduceBEq, Int.reduceBNe, Int.reduceToNat, Int.reduceNeg, Int.reduceSub, Int.reduceAdd, edH, goE]
  refine callK hA ?_
  simp only [push_cast, Nat.reduceBEq, Nat.reduceAdd, Nat.reduceEqDiff, reduceCtorEq, Nat.reduceLeDiff, Nat.reduceSub, Nat.reduceMul, Nat.reduceLT, Int.reduceEq, Int.reduceLT, Int.reduceLE, Int.reduceBEq, Int.reduceBNe, Int.reduceToNat, Int.reduceNeg, Int.reduceSub, Int.reduceAdd, stH]
  by_cases h0 : r = 0
  · subst h0
    obtain ⟨hslog, hslen, hlow, t, ht, htl, htn, hts, htnil, htm⟩ := hlaw rfl
    have hws := hwf rfl
    clear hlaw hwf hA hto
    simp only [push_cast, Nat.reduceBEq, Nat.reduceAdd, Nat.reduceEqDiff, reduceCtorEq, Nat.reduceLeDiff, Nat.reduceSub, Nat.reduceMul, Nat.reduceLT, Int.reduceEq, Int.reduceLT, Int.reduceLE, Int.reduceBEq, Int.reduceBNe, Int.reduceToNat, Int.reduceNeg, Int.reduceSub, Int.reduceAdd]
    refine loopK (fun n x => ∃ (k : Nat) (c : AV) (nx : Nat) (H : Hp), x = ⟨[(0, .sl (L.map addH)), (1, .lit (.int .i64 log)), (5, .ptr 0 0), (6, .lit (.int .i64 0)), (7, .ptr 1 0), (8, .lit (.int .i64 (k : Int)))], H, nx⟩ ∧ n = L.length - k ∧ k ≤ L.length ∧ 2 ≤ nx ∧
      H 0 = some (.cells [.lit (.int .i64 s.log), .lit (.int .i64 s.next), .lit (.int .i64 s.seq), .sl ((s.lv 0).map metaH), .sl ((s.lv 1).map metaH), .sl ((s.lv 2).map metaH), .sl ((s.lv 3).map metaH)]) ∧
      H 1 = some (.cells [.lit (.int .i64 (-1)), .lit (.int .i64 (-1)), .lit (.int .i64 (-1)), c, .lit (.slice none 0 0)]) ∧ ((c = .lit (.slice none 0 0) ∧ k = 0) ∨ ∃ g, c = .rw g 2 0 k ∧ 2 ≤ g ∧ g < nx ∧ H g = some (.row false 86 ((placesA (L.take k)).map plH)))) _ [0, 1, 5, 6, 7, 8] (by exact ⟨0, _, 2, _, rfl, rfl, by omega, by omega, rfl, rfl, .inl ⟨rfl, rfl⟩⟩) ?_
    rintro n _ ⟨k, c, nx, H, rfl, rfl, hk, hnx, h0, h1, hrow⟩
    by_cases h : k < L.length
    · obtain ⟨x, hx⟩ : ∃ x, L[k]? = some x := ⟨_, List.getElem?_eq_getElem h⟩
      have hw := wrap_nat (k := k) (by omega)
      have hb : (k + 1) * 16 ≤ 140737488355328 := by omega
      have hn0' : (nx == 0) = false := by rw [← Bool.not_eq_true, beq_iff_eq]; omega
      have hn1' : (nx == 1) = false := by rw [← Bool.not_eq_true, beq_iff_eq]; omega
      have hnext : placesA (L.take (k + 1)) = placesA (L.take k) ++ [⟨x.level, x.t.file⟩] := by
        unfold placesA; rw [List.take_add_one, hx, List.map_append]; rfl
      rcases hrow with ⟨rfl, rfl⟩ | ⟨g, rfl, g2, hgn, hrow⟩
      · have hpos : (0 : Int) < (L.length : Int) := by omega
        have hw1 : IntKind.i64.wrap 1 = 1 := by decide
        simp only [push_cast, Nat.reduceBEq, Nat.reduceAdd, Nat.reduceEqDiff, reduceCtorEq, Nat.reduceLeDiff, Nat.reduceSub, Nat.reduceMul, Nat.reduceLT, Int.reduceEq, Int.reduceLT, Int.reduceLE, Int.reduceBEq, Int.reduceBNe, Int.reduceToNat, Int.reduceNeg, Int.reduceSub, Int.reduceAdd, hpos, hx, h0, h1, addH, hw1, hn0', hn1']
        refine ⟨_, by omega, 1, _, nx + 1, _, rfl, rfl, by omega, by omega, ?_, upd_same _ _ _, .inr ⟨nx, rfl, by omega, by omega, ?_⟩⟩
        · rw [upd_other (by omega), upd_other (by omega)]; exact h0
        · rw [upd_other (by omega), upd_same, hnext]; rfl
      · have hlen : ((placesA (L.take k)).map plH).length = k := by unfold placesA; rw [List.length_map, List.length_map, List.length_take]; omega
        have hlen' : (placesA (L.take k)).length = k := by rw [List.length_map] at hlen; exact hlen
        have hne : (nx == g) = false := by rw [← Bool.not_eq_true, beq_iff_eq]; omega
        have hg0' : (g == 0) = false := by rw [← Bool.not_eq_true, beq_iff_eq]; omega
        have hg1' : (g == 1) = false := by rw [← Bool.not_eq_true, beq_iff_eq]; omega
        simp only [push_cast, Nat.reduceBEq, Nat.reduceAdd, Nat.reduceEqDiff, reduceCtorEq, Nat.reduceLeDiff, Nat.reduceSub, Nat.reduceMul, Nat.reduceLT, Int.reduceEq, Int.reduceLT, Int.reduceLE, Int.reduceBEq, Int.reduceBNe, Int.reduceToNat, Int.reduceNeg, Int.reduceSub, Int.reduceAdd, h, hx, h0, h1, hrow, addH, hw, hb, hlen', hne, hn0', hn1', hg0', hg1']
        refine ⟨_, by omega, k + 1, _, nx + 1, _, rfl, rfl, by omega, by omega, ?_, upd_same _ _ _, .inr ⟨nx, rfl, by omega, by omega, ?_⟩⟩
        · rw [upd_other (by omega), upd_other (by omega), upd_other (by omega)]; exact h0
        · rw [upd_other (by omega), upd_same, hnext, List.map_append]; rfl
    · obtain rfl : k = L.length := by omega
      rw [List.take_length] at hrow
      have hc1 : AV.isOne c = true := by rcases hrow with ⟨rfl, _⟩ | ⟨g, rfl, _⟩ <;> rfl
      have hout := to_h (outE L) (by show (placesA L).length ≤ 1000000; unfold placesA; rw [List.length_map]; omega) (Nat.zero_le _)
      simp only [AV.isOne, Value.oneCell'] at hc1
      have hview : ∀ H' : Hp, (∀ g, g < nx → H' g = H g) → List.map (AV.view H') [AV.agg [.lit (.int .i64 (-1)), .lit (.int .i64 (-1)), .lit (.int .i64 (-1)), c, .lit (.slice none 0 0)]] = [edH (outE L)] := by
        intro H' hH
        have : AV.view1 H' c = .sl ((placesA L).map plH) := by
          rcases hrow with ⟨rfl, hk0⟩ | ⟨g, rfl, g2, hgn, hrow⟩
          · obtain rfl := List.eq_nil_of_length_eq_zero hk0
            rfl
          · unfold AV.view1
            simp only [hH g hgn, hrow]
            have e1 : fits ((placesA L).map plH) 2 0 L.length = true := by
              unfold fits
              simp [placesA, plH]
            rw [e1]
            simp [piece, placesA]
            exact List.take_of_length_le (by simp)
        show [AV.agg [_, _, _, AV.view1 H' c, _]] = _
        rw [this]
        rfl
      simp only [push_cast, Nat.reduceBEq, Nat.reduceAdd, Nat.reduceEqDiff, reduceCtorEq, Nat.reduceLeDiff, Nat.reduceSub, Nat.reduceMul, Nat.reduceLT, Int.reduceEq, Int.reduceLT, Int.reduceLE, Int.reduceBEq, Int.reduceBNe, Int.reduceToNat, Int.reduceNeg, Int.reduceSub, Int.reduceAdd, h, h0, h1, hc1]
      refine callD (by rw [hview _ (fun _ _ => rfl)]; exact hout) ?_
      have hB := apply_h s (outE L) hws (fun i hi => by have := hslen i hi; omega)
      rw [ht] at hB
      simp only [push_cast, Nat.reduceBEq, Nat.reduceAdd, Nat.reduceEqDiff, reduceCtorEq, Nat.reduceLeDiff, Nat.reduceSub, Nat.reduceMul, Nat.reduceLT, Int.reduceEq, Int.reduceLT, Int.reduceLE, Int.reduceBEq, Int.reduceBNe, Int.reduceToNat, Int.reduceNeg, Int.reduceSub, Int.reduceAdd, h0, h1, hc1]
      refine callD hB ?_
      have hn0' : (nx == 0) = false := by rw [← Bool.not_eq_true, beq_iff_eq]; omega
      have hn1' : (nx == 1) = false := by rw [← Bool.not_eq_true, beq_iff_eq]; omega
      simp only [push_cast, Nat.reduceBEq, Nat.reduceAdd, Nat.reduceEqDiff, reduceCtorEq, Nat.reduceLeDiff, Nat.reduceSub, Nat.reduceMul, Nat.reduceLT, Int.reduceEq, Int.reduceLT, Int.reduceLE, Int.reduceBEq, Int.reduceBNe, Int.reduceToNat, Int.reduceNeg, Int.reduceSub, Int.reduceAdd, h0, h1, hc1, hn0', hn1', stH]
      refine callD (by rw [hview _ (fun g hg => (upd_other (by omega)).trans (upd_other (by omega)))]; exact hout) ?_
      have hwt : Wf0 t := by have := docApply_wf0 (s := s) (e := outE L) hws (by rw [ht]); rw [ht] at this; exact this
      have hlt : ∀ i, i < 4 → (t.lv i).length ≤ 1000000 := fun i hi => by rw [htnil i hi]; exact Nat.zero_le _
      have hC := apply_h t (outE L) hwt hlt
      obtain ⟨f2, hf2⟩ : ∃ f2, (docApply t (outE L)).2 = f2 := ⟨_, rfl⟩
      obtain ⟨s2, hs2⟩ : ∃ s2, (docApply t (outE L)).1 = s2 := ⟨_, rfl⟩
      have hf7 : L ≠ [] → f2 = 7 := fun hne => by rw [← hf2, htm hne]
      rw [hf2, hs2] at hC
      simp only [push_cast, Nat.reduceBEq, Nat.reduceAdd, Nat.reduceEqDiff, reduceCtorEq, Nat.reduceLeDiff, Nat.reduceSub, Nat.reduceMul, Nat.reduceLT, Int.reduceEq, Int.reduceLT, Int.reduceLE, Int.reduceBEq, Int.reduceBNe, Int.reduceToNat, Int.reduceNeg, Int.reduceSub, Int.reduceAdd, h0, h1, hc1, hn0', hn1', stH]
      refine callD hC ?_
      have hn10 : (nx + 1 == 0) = false := by rw [← Bool.not_eq_true, beq_iff_eq]; omega
      have hn11 : (nx + 1 == 1) = false := by rw [← Bool.not_eq_true, beq_iff_eq]; omega
      have hn20 : (nx + 1 + 1 == 0) = false := by rw [← Bool.not_eq_true, beq_iff_eq]; omega
      have hn21 : (nx + 1 + 1 == 1) = false := by rw [← Bool.not_eq_true, beq_iff_eq]; omega
      have hto3 := to_h (lowE (log - 1)) (Nat.zero_le _) (Nat.zero_le _)
      have hD := apply_h s (lowE (log - 1)) hws (fun i hi => by have := hslen i hi; omega)
      obtain ⟨f3, hf3⟩ : ∃ f3, (docApply s (lowE (log - 1))).2 = f3 := ⟨_, rfl⟩
      obtain ⟨s3, hs3⟩ : ∃ s3, (docApply s (lowE (log - 1))).1 = s3 := ⟨_, rfl⟩
      have hg1 : log ≠ 1 → f3 = 1 := fun hne => by rw [← hf3, hlow hne]
      rw [hf3, hs3] at hD
      have hwl : IntKind.i64.wrap (log - 1) = log - 1 := IntWalk.i64_in _ (by omega)
      simp only [push_cast, Nat.reduceBEq, Nat.reduceAdd, Nat.reduceEqDiff, reduceCtorEq, Nat.reduceLeDiff, Nat.reduceSub, Nat.reduceMul, Nat.reduceLT, Int.reduceEq, Int.reduceLT, Int.reduceLE, Int.reduceBEq, Int.reduceBNe, Int.reduceToNat, Int.reduceNeg, Int.reduceSub, Int.reduceAdd, h0, h1, hc1, hn0', hn1', hn10, hn11, stH, nbq1_0 nx, nbq0_1 nx, hwl]
      refine callD (by exact hto3) ?_
      simp only [push_cast, Nat.reduceBEq, Nat.reduceAdd, Nat.reduceEqDiff, reduceCtorEq, Nat.reduceLeDiff, Nat.reduceSub, Nat.reduceMul, Nat.reduceLT, Int.reduceEq, Int.reduceLT, Int.reduceLE, Int.reduceBEq, Int.reduceBNe, Int.reduceToNat, Int.reduceNeg, Int.reduceSub, Int.reduceAdd, h0, h1, hc1, hn0', hn1', hn10, hn11, stH, edH, lowE, nbq1_0 nx, nbq0_1 nx]
      refine callD hD ?_
      have hfi := files_h t (by unfold allS; rw [htnil 0 (by omega), htnil 1 (by omega), htnil 2 (by omega), htnil 3 (by omega)]; exact List.nodup_nil) (fun i hi => by rw [htnil i hi]; exact Nat.zero_le _)
      have hfs : filesS t = [] := by
        unfold filesS allS
        rw [htnil 0 (by omega), htnil 1 (by omega), htnil 2 (by omega), htnil 3 (by omega)]
        exact (sortZ_perm []).eq_nil
      rw [hfs] at hfi
      by_cases hl1 : log = 1
      · subst hl1
        simp only [push_cast, Nat.reduceBEq, Nat.reduceAdd, Nat.reduceEqDiff, reduceCtorEq, Nat.reduceLeDiff, Nat.reduceSub, Nat.reduceMul, Nat.reduceLT, Int.reduceEq, Int.reduceLT, Int.reduceLE, Int.reduceBEq, Int.reduceBNe, Int.reduceToNat, Int.reduceNeg, Int.reduceSub, Int.reduceAdd, h0, h1, hc1, hn0', hn1', hn10, hn11, hn20, hn21, stH, nbq1_0 nx, nbq0_1 nx, nbq2_0 nx, nbq2_1 nx, nbq0_2 nx, nbq1_2 nx]
        refine callK hfi ?_
        by_cases hL : L = []
        · subst hL
          simp only [push_cast, Nat.reduceBEq, Nat.reduceAdd, Nat.reduceEqDiff, reduceCtorEq, Nat.reduceLeDiff, Nat.reduceSub, Nat.reduceMul, Nat.reduceLT, Int.reduceEq, Int.reduceLT, Int.reduceLE, Int.reduceBEq, Int.reduceBNe, Int.reduceToNat, Int.reduceNeg, Int.reduceSub, Int.reduceAdd, h0, h1, hc1, hn0', hn1', hn10, hn11, hn20, hn21, stH, nbq1_0 nx, nbq0_1 nx, nbq2_0 nx, nbq2_1 nx, nbq0_2 nx, nbq1_2 nx, htl, htn, hts, h0]
        · have h72 : f2 = 7 := hf7 hL
          subst h72
          have hlen : ((L.length : Int) == 0) = false := by
            rw [← Bool.not_eq_true, beq_iff_eq]
            intro e
            exact hL (List.eq_nil_of_length_eq_zero (by omega))
          simp only [push_cast, Nat.reduceBEq, Nat.reduceAdd, Nat.reduceEqDiff, reduceCtorEq, Nat.reduceLeDiff, Nat.reduceSub, Nat.reduceMul, Nat.reduceLT, Int.reduceEq, Int.reduceLT, Int.reduceLE, Int.reduceBEq, Int.reduceBNe, Int.reduceToNat, Int.reduceNeg, Int.reduceSub, Int.reduceAdd, h0, h1, hc1, hn0', hn1', hn10, hn11, hn20, hn21, stH, nbq1_0 nx, nbq0_1 nx, nbq2_0 nx, nbq2_1 nx, nbq0_2 nx, nbq1_2 nx, htl, htn, hts, h0, hlen]
      · have hlb : (log == 1) = false := by rw [← Bool.not_eq_true, beq_iff_eq]; exact hl1
        have hg := hg1 hl1
        subst hg
        simp only [push_cast, Nat.reduceBEq, Nat.reduceAdd, Nat.reduceEqDiff, reduceCtorEq, Nat.reduceLeDiff, Nat.reduceSub, Nat.reduceMul, Nat.reduceLT, Int.reduceEq, Int.reduceLT, Int.reduceLE, Int.reduceBEq, Int.reduceBNe, Int.reduceToNat, Int.reduceNeg, Int.reduceSub, Int.reduceAdd, h0, h1, hc1, hn0', hn1', hn10, hn11, hn20, hn21, stH, nbq1_0 nx, nbq0_1 nx, nbq2_0 nx, nbq2_1 nx, nbq0_2 nx, nbq1_2 nx, hlb]
        refine callK hfi ?_
        by_cases hL : L = []
        · subst hL
          simp only [push_cast, Nat.reduceBEq, Nat.reduceAdd, Nat.reduceEqDiff, reduceCtorEq, Nat.reduceLeDiff, Nat.reduceSub, Nat.reduceMul, Nat.reduceLT, Int.reduceEq, Int.reduceLT, Int.reduceLE, Int.reduceBEq, Int.reduceBNe, Int.reduceToNat, Int.reduceNeg, Int.reduceSub, Int.reduceAdd, h0, h1, hc1, hn0', hn1', hn10, hn11, hn20, hn21, stH, nbq1_0 nx, nbq0_1 nx, nbq2_0 nx, nbq2_1 nx, nbq0_2 nx, nbq1_2 nx, htl, htn, hts, hlb]
        · have h72 : f2 = 7 := hf7 hL
          subst h72
          have hlen : ((L.length : Int) == 0) = false := by
            rw [← Bool.not_eq_true, beq_iff_eq]
            intro e
            exact hL (List.eq_nil_of_length_eq_zero (by omega))
          simp only [push_cast, Nat.reduceBEq, Nat.reduceAdd, Nat.reduceEqDiff, reduceCtorEq, Nat.reduceLeDiff, Nat.reduceSub, Nat.reduceMul, Nat.reduceLT, Int.reduceEq, Int.reduceLT, Int.reduceLE, Int.reduceBEq, Int.reduceBNe, Int.reduceToNat, Int.reduceNeg, Int.reduceSub, Int.reduceAdd, h0, h1, hc1, hn0', hn1', hn10, hn11, hn20, hn21, stH, nbq1_0 nx, nbq0_1 nx, nbq2_0 nx, nbq2_1 nx, nbq0_2 nx, nbq1_2 nx, htl, htn, hts, hlb, hlen]
  · have h0' : (r != 0) = true := by simpa using h0
    simp only [push_cast, Nat.reduceBEq, Nat.reduceAdd, Nat.reduceEqDiff, reduceCtorEq, Nat.reduceLeDiff, Nat.reduceSub, Nat.reduceMul, Nat.reduceLT, Int.reduceEq, Int.reduceLT, Int.reduceLE, Int.reduceBEq, Int.reduceBNe, Int.reduceToNat, Int.reduceNeg, Int.reduceSub, Int.reduceAdd, h0']
end Go.Proofs.Ytheanmfdfoefoaa
