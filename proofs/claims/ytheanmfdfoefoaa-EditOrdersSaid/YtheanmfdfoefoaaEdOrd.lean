/- Chapter 17's statements: EditOrders, by the walk over a heap. -/
import Derived.Test.YtheanmfdfoefoaaEdLaws
import Derived.Test.YtheanmfdfoefoaaEdOrdP
import Derived.Test.YtheanmfdfoefoaaEdElems
set_option linter.unusedVariables false
set_option linter.unusedSimpArgs false
namespace Go.Proofs.Ytheanmfdfoefoaa
open Go Go.RowKit Hv
set_option maxRecDepth 20000
set_option maxHeartbeats 8000000

theorem pick_num (z : Int) {n : Nat} (h : 0 < n) (h' : n ≤ 20) : ∃ k : Nat, IntKind.i64.wrap ((IntKind.u64.wrap z).tmod (n : Int)) = (k : Int) ∧ k < n := by
  have h0 : 0 ≤ IntKind.u64.wrap z := by
    simp only [IntKind.wrap, IntKind.signed, IntKind.bits]
    have := Int.emod_nonneg z (show (2 : Int) ^ 64 ≠ 0 by decide)
    simpa using this
  have h1 : 0 ≤ (IntKind.u64.wrap z).tmod (n : Int) := Int.tmod_nonneg _ h0
  have h2 : (IntKind.u64.wrap z).tmod (n : Int) < n := Int.tmod_lt_of_pos _ (by omega)
  refine ⟨((IntKind.u64.wrap z).tmod (n : Int)).toNat, ?_, by omega⟩
  rw [IntWalk.i64_in _ (by omega)]; omega
theorem u64_len {n : Nat} (h : n ≤ 1000000) : IntKind.u64.wrap (n : Int) = n := by
  simp [IntKind.wrap, IntKind.bits, IntKind.signed]; omega
/-- What a state's cells are worth. -/
def LvIs (c : AV) (l : List MetaD) : Prop := (c = .lit (.slice none 0 0) ∧ l = []) ∨ c = .sl (l.map metaH)
theorem LvIs.view {c : AV} {l : List MetaD} (h : LvIs c l) (H : Hp) : AV.view1 H c = .sl (l.map metaH) := by
  rcases h with ⟨rfl, rfl⟩ | rfl <;> rfl
theorem LvIs.one {c : AV} {l : List MetaD} (h : LvIs c l) : AV.isOne c = true := by
  rcases h with ⟨rfl, rfl⟩ | rfl <;> rfl
theorem st_view {s : StD} {c0 c1 c2 c3 : AV} (h0 : LvIs c0 (s.lv 0)) (h1 : LvIs c1 (s.lv 1)) (h2 : LvIs c2 (s.lv 2)) (h3 : LvIs c3 (s.lv 3)) (H : Hp) (a b c : Int) (ha : s.log = a) (hb : s.next = b) (hc : s.seq = c) :
    AV.view H (.agg [.lit (.int .i64 a), .lit (.int .i64 b), .lit (.int .i64 c), c0, c1, c2, c3]) = stH s := by
  subst ha hb hc
  show AV.agg [_, _, _, AV.view1 H c0, AV.view1 H c1, AV.view1 H c2, AV.view1 H c3] = _
  rw [h0.view, h1.view, h2.view, h3.view]; rfl
/-- The loop over what is left: f, the state, what has come, what is left. -/
structure OrdInv (L : List AddD) (s : StD) (f : Int) (done left : List AddD) : Prop where
  perm : f = 0 → (done ++ left).Perm L
  wf : f = 0 → Wf0 s ∧ HasT s done ∧ OkA done
  nums : f = 0 → s.log = 1 ∧ s.next = 1 ∧ s.seq = 0
  bad : f ≠ 0 → ¬ OkA L
theorem hasT_len {s : StD} {l : List AddD} (h : HasT s l) : ∀ i, i < 4 → (s.lv i).length ≤ l.length := fun i hi => by
  have h1 := (h i hi).length_eq
  rw [List.length_map] at h1
  have h2 := List.length_filter_le (fun a : AddD => a.level.toNat == i) l
  omega
theorem ordInv_step {L : List AddD} {s : StD} {done left : List AddD} (h : OrdInv L s 0 done left) (hL : L.length ≤ 20) {k : Nat} {x : AddD} (hx : left[k]? = some x) :
    OrdInv L (docApply s (addE [x])).1 (docApply s (addE [x])).2 (done ++ [x]) (left.take k ++ left.drop (k + 1)) := by
  obtain ⟨hw, hh, hok⟩ := h.wf rfl
  have hp := h.perm rfl
  have hlen : (done ++ left).length = L.length := hp.length_eq
  rw [List.length_append] at hlen
  obtain ⟨hk, hx'⟩ := List.getElem?_eq_some_iff.1 hx
  have hsplit : left = left.take k ++ x :: left.drop (k + 1) := by
    rw [← hx']
    conv => lhs; rw [← List.take_append_drop k left, List.drop_eq_getElem_cons hk]
  have hperm : ((done ++ [x]) ++ (left.take k ++ left.drop (k + 1))).Perm L := by
    refine List.Perm.trans ?_ hp
    conv => rhs; rw [hsplit]
    rw [List.append_assoc]
    refine List.Perm.append_left _ ?_
    exact (List.perm_middle (l₁ := left.take k) (l₂ := left.drop (k + 1)) (a := x)).symm
  obtain ⟨a1, a2⟩ := add_law (s := s) (l0 := done) (l := [x]) hw hh hok (by simp only [List.length_cons, List.length_nil]; omega)
  refine ⟨fun _ => hperm, fun hf => ?_, fun hf => ?_, fun hf hOk => hf (a2 ?_)⟩
  · obtain ⟨b1, b2, _⟩ := a1 hf
    exact ⟨docApply_wf0 hw hf, b2, b1⟩
  · obtain ⟨_, _, b3, b4, b5⟩ := a1 hf
    obtain ⟨c1, c2, c3⟩ := h.nums rfl
    exact ⟨b3.trans c1, b4.trans c2, b5.trans c3⟩
  · exact (hOk.perm hperm.symm).left
theorem EditOrders_h (l : List AddD) (ord : List Int) : Hv.ACalls Try.prog 7 [.sl (l.map addH), .sl (ord.map intH)] (.lit (.bool true)) := by
  refine acallsC_of (rs := [.tmp 4]) ⟨[0, 1, 4, 5, 6, 7, 8, 9, 10, 11, 13, 37, 43, 80], [], [], [(13, [(0, [], []), (1, [], []), (2, [], []), (3, [], []), (4, [], []), (5, [], []), (6, [], []), (7, [0], [6, 5, 1, 2, 4, 3]), (8, [], [0, 7, 6, 5, 1, 2, 4, 3]), (9, [], []), (10, [], []), (11, [], []), (12, [], [10, 8, 0, 1, 2, 3, 4, 5, 6, 7, 9]), (13, [], [11, 12, 0, 1, 2, 3, 4, 5, 6, 7, 8, 9, 10])]), (14, [(1, [], []), (2, [], []), (3, [], []), (5, [], []), (6, [], []), (7, [], []), (8, [], []), (0, [], []), (4, [], [0, 3, 1, 2]), (9, [], [4, 8, 0, 3, 5, 7, 1, 2, 6]), (10, [], [9, 0, 1, 2, 3, 4, 5, 6, 7, 8])]), (17, [(0, [], []), (1, [], []), (2, [], []), (3, [], []), (5, [], []), (4, [5], [3, 2, 1, 0]), (6, [], [5, 4, 2, 3, 1, 0]), (7, [], [4, 6, 2, 3, 5, 1, 0]), (8, [], []), (9, [], []), (12, [], []), (13, [], []), (10, [13], [9, 8, 7, 2, 4, 6, 1, 3, 5, 0]), (11, [], []), (14, [], []), (15, [], []), (16, [], []), (17, [], [16, 10, 0, 1, 2, 3, 4, 5, 6, 7, 8, 9, 11, 12, 13, 14, 15])])]⟩ TOk mixed Try.func7 rfl rfl (by kernel_rfl) (by kernel_rfl) rfl (nid2 (noId_adds l) (noId_ints ord)) (.lit _) ?_
  simp only [push_cast, Nat.reduceBEq, Nat.reduceAdd, Nat.reduceEqDiff, reduceCtorEq, Nat.reduceLeDiff, Nat.reduceSub, Nat.reduceMul, Nat.reduceLT, Int.reduceEq, Int.reduceLT, Int.reduceLE, Int.reduceBEq, Int.reduceBNe, Int.reduceToNat, Int.reduceNeg, Int.reduceSub, Int.reduceAdd]
  refine callK edits_h ?_
  obtain ⟨m, hm, hml, hm20⟩ : ∃ m : Nat, (if (20 : Int) < (l.length : Int) then (20 : Int) else (l.length : Int)) = (m : Int) ∧ m ≤ l.length ∧ m ≤ 20 := by
    by_cases h : (20 : Int) < (l.length : Int)
    · exact ⟨20, by rw [if_pos h]; rfl, by omega, by omega⟩
    · exact ⟨l.length, by rw [if_neg h], by omega, by omega⟩
  have hal : (∀ j : AddD, j ∈ l → (addH j).length = 5) = True := eq_true fun _ _ => rfl
  have htk : List.take m (List.map addH l) = (l.take m).map addH := List.map_take.symm
  obtain ⟨L, hL⟩ : ∃ L, l.take m = L := ⟨_, rfl⟩
  have hLl : L.length ≤ 20 := by rw [← hL, List.length_take]; omega
  rw [hL] at htk
  simp only [push_cast, Nat.reduceBEq, Nat.reduceAdd, Nat.reduceEqDiff, reduceCtorEq, Nat.reduceLeDiff, Nat.reduceSub, Nat.reduceMul, Nat.reduceLT, Int.reduceEq, Int.reduceLT, Int.reduceLE, Int.reduceBEq, Int.reduceBNe, Int.reduceToNat, Int.reduceNeg, Int.reduceSub, Int.reduceAdd, hm, hml, hal, htk]
  clear hm hml hal htk hL
  have hto := to_h (addE L) (Nat.zero_le _) (by show L.length ≤ 1000000; omega)
  have hA := apply_h emptyS (addE L) empty_wf0 (fun _ _ => Nat.zero_le _)
  have hlaw := add_law (s := emptyS) (l0 := []) (l := L) empty_wf0 hasT_empty okA_nil (by simp only [List.length_nil]; omega)
  have hwf := docApply_wf0 (s := emptyS) (e := addE L) empty_wf0
  obtain ⟨r, hr⟩ : ∃ r, (docApply emptyS (addE L)).2 = r := ⟨_, rfl⟩
  obtain ⟨s1, hs⟩ : ∃ s, (docApply emptyS (addE L)).1 = s := ⟨_, rfl⟩
  rw [hr, hs] at hA hlaw hwf
  rw [List.nil_append] at hlaw
  refine callK hto ?_
  simp only [push_cast, Nat.reduceBEq, Nat.reduceAdd, Nat.reduceEqDiff, reduceCtorEq, Nat.reduceLeDiff, Nat.reduceSub, Nat.reduceMul, Nat.reduceLT, Int.reduceEq, Int.reduceLT, Int.reduceLE, Int.reduceBEq, Int.reduceBNe, Int.reduceToNat, Int.reduceNeg, Int.reduceSub, Int.reduceAdd, edH, addE]
  refine callK hA ?_
  have hal : (∀ j : AddD, j ∈ L → (addH j).length = 5) = True := eq_true fun _ _ => rfl
  have hb : (L.length * 56 ≤ 140737488355328) = True := eq_true (by omega)
  simp only [push_cast, Nat.reduceBEq, Nat.reduceAdd, Nat.reduceEqDiff, reduceCtorEq, Nat.reduceLeDiff, Nat.reduceSub, Nat.reduceMul, Nat.reduceLT, Int.reduceEq, Int.reduceLT, Int.reduceLE, Int.reduceBEq, Int.reduceBNe, Int.reduceToNat, Int.reduceNeg, Int.reduceSub, Int.reduceAdd, stH, hal, hb, List.not_mem_nil, false_implies, List.append_nil]
  clear hA hto
  refine loopK (fun n x => ∃ (i g nx : Nat) (H : Hp) (s : StD) (f : Int) (done left : List AddD) (c0 c1 c2 c3 : AV), x = ⟨[(0, .sl (L.map addH)), (1, .sl (ord.map intH)), (5, .ptr 0 0), (6, .lit (.int .i64 r)), (7, .rw g 5 0 left.length), (8, .ptr 3 0), (9, .lit (.int .i64 f)), (10, .lit (.int .i64 (i : Int)))], H, nx⟩ ∧ n = left.length ∧
      OrdInv L s f done left ∧ i + left.length ≤ 20 ∧ 4 ≤ nx ∧ g < nx ∧ (g = 2 ∨ 4 ≤ g) ∧ H 0 = some (.cells (stC s1)) ∧ H 3 = some (.cells [.lit (.int .i64 s.log), .lit (.int .i64 s.next), .lit (.int .i64 s.seq), c0, c1, c2, c3]) ∧ LvIs c0 (s.lv 0) ∧ LvIs c1 (s.lv 1) ∧ LvIs c2 (s.lv 2) ∧ LvIs c3 (s.lv 3) ∧
      H g = some (.row false 84 (left.map addH))) _ [0, 1, 5, 6, 7, 8, 9, 10] (by exact ⟨0, 2, 4, _, emptyS, 0, [], L, _, _, _, _, rfl, rfl, ⟨fun _ => List.Perm.refl _, fun _ => ⟨empty_wf0, hasT_empty, okA_nil⟩, fun _ => ⟨rfl, rfl, rfl⟩, fun h => absurd rfl h⟩, by omega, by omega, by omega, .inl rfl, rfl, rfl, .inl ⟨rfl, rfl⟩, .inl ⟨rfl, rfl⟩, .inl ⟨rfl, rfl⟩, .inl ⟨rfl, rfl⟩, rfl⟩) ?_
  rintro n _ ⟨i, g, nx, H, s, f, done, left, c0, c1, c2, c3, rfl, rfl, inv, hi, hnx, hg, hg2, h0, h3, l0, l1, l2, l3, hrow⟩
  by_cases hne : 0 < left.length
  · by_cases hf : f = 0
    · subst hf
      have hpos : (0 : Int) < (left.length : Int) := by omega
      simp only [push_cast, Nat.reduceBEq, Nat.reduceAdd, Nat.reduceEqDiff, reduceCtorEq, Nat.reduceLeDiff, Nat.reduceSub, Nat.reduceMul, Nat.reduceLT, Int.reduceEq, Int.reduceLT, Int.reduceLE, Int.reduceBEq, Int.reduceBNe, Int.reduceToNat, Int.reduceNeg, Int.reduceSub, Int.reduceAdd, hpos]
      have hle20 : left.length ≤ 20 := by omega
      have hu := u64_len (n := left.length) (by omega)
      have hu0 : ((left.length : Int) = 0) = False := eq_false (by omega)
      refine' meetG (fun meet => _) _
      rotate_left
      · by_cases h : i < ord.length
        · obtain ⟨z, hz⟩ : ∃ z, ord[i]? = some z := ⟨_, List.getElem?_eq_getElem h⟩
          obtain ⟨k, hk, hkl⟩ := pick_num z hne hle20
          simp only [push_cast, Nat.reduceBEq, Nat.reduceAdd, Nat.reduceEqDiff, reduceCtorEq, Nat.reduceLeDiff, Nat.reduceSub, Nat.reduceMul, Nat.reduceLT, Int.reduceEq, Int.reduceLT, Int.reduceLE, Int.reduceBEq, Int.reduceBNe, Int.reduceToNat, Int.reduceNeg, Int.reduceSub, Int.reduceAdd, h, hz, intH, hu, hu0, hk]
          clear hk hz
          generalize ((43, AV.lit (.bool true)) : Nat × AV) = p43
          revert p43
          revert k
          exact meet
        · simp only [push_cast, Nat.reduceBEq, Nat.reduceAdd, Nat.reduceEqDiff, reduceCtorEq, Nat.reduceLeDiff, Nat.reduceSub, Nat.reduceMul, Nat.reduceLT, Int.reduceEq, Int.reduceLT, Int.reduceLE, Int.reduceBEq, Int.reduceBNe, Int.reduceToNat, Int.reduceNeg, Int.reduceSub, Int.reduceAdd, h]
          generalize ((43, AV.lit (.bool false)) : Nat × AV) = p43
          revert p43
          exact meet 0 hne
      · intro k hk p43
        obtain ⟨x, hx⟩ : ∃ x, left[k]? = some x := ⟨_, List.getElem?_eq_getElem hk⟩
        have hw := wrap_nat (k := k) (by omega)
        have hc1 : (k : Int) ≤ (k : Int) + 1 := by omega
        have hc2 : (k : Int) + 1 ≤ (left.length : Int) := by omega
        have hc3 : ((k : Int) + 1 - (k : Int)).toNat = 1 := by omega
        simp only [push_cast, Nat.reduceBEq, Nat.reduceAdd, Nat.reduceEqDiff, reduceCtorEq, Nat.reduceLeDiff, Nat.reduceSub, Nat.reduceMul, Nat.reduceLT, Int.reduceEq, Int.reduceLT, Int.reduceLE, Int.reduceBEq, Int.reduceBNe, Int.reduceToNat, Int.reduceNeg, Int.reduceSub, Int.reduceAdd, h0, h3, hrow, hw, hc1, hc2, hc3]
        have hdr : left.drop k = x :: left.drop (k + 1) := by
          obtain ⟨hk', hx'⟩ := List.getElem?_eq_some_iff.1 hx
          rw [← hx', List.drop_eq_getElem_cons hk']
        have hcut : ∀ H' : Hp, H' g = H g → AV.view1 H' (.rw g 5 k 1) = .sl [addH x] := by
          intro H' hH
          unfold AV.view1
          simp only [hH, hrow]
          have hpc : piece (left.map addH) k 1 = [addH x] := by
            unfold piece
            cases hb : Nat.beq k 0 with
            | true =>
              have := Nat.eq_of_beq_eq_true hb
              subst this
              rw [List.drop_zero] at hdr
              rw [hdr]; rfl
            | false =>
              rw [cond_false, ← List.map_drop, hdr]; rfl
          have hft : fits (left.map addH) 5 k 1 = true := by
            unfold fits
            cases left with
            | nil => exact absurd hk (Nat.not_lt_zero _)
            | cons a l' =>
              cases hb : Nat.beq k 0 with
              | true => simp
              | false =>
                simp only [cond_false, List.map_cons, headLen, addH, List.length_cons, List.length_nil, List.length_map, Bool.and_eq_true, Nat.ble_eq]
                exact ⟨rfl, by simp only [List.length_cons] at hk; omega⟩
          rw [hft, hpc]; rfl
        obtain ⟨hw0, hh0, hok0⟩ := inv.wf rfl
        obtain ⟨n1, n2, n3⟩ := inv.nums rfl
        have hstep := ordInv_step inv hLl hx
        have hto1 := to_h (addE [x]) (Nat.zero_le _) (by show 1 ≤ 1000000; omega)
        have hpl := inv.perm rfl
        have hlen0 := hpl.length_eq
        rw [List.length_append] at hlen0
        have hA1 := apply_h s (addE [x]) hw0 (fun i hi => by have := hasT_len hh0 i hi; omega)
        obtain ⟨f', hf'⟩ : ∃ f', (docApply s (addE [x])).2 = f' := ⟨_, rfl⟩
        obtain ⟨s', hs'⟩ : ∃ s', (docApply s (addE [x])).1 = s' := ⟨_, rfl⟩
        rw [hf', hs'] at hA1 hstep
        clear hf' hs'
        have hv : ∀ H' : Hp, H' g = H g → List.map (AV.view H') [.agg [.lit (.int .i64 (-1)), .lit (.int .i64 (-1)), .lit (.int .i64 (-1)), .lit (.slice none 0 0), .rw g 5 k 1]] = [edH (addE [x])] := by
          intro H' hH
          show [AV.agg [_, _, _, _, AV.view1 H' (.rw g 5 k 1)]] = _
          rw [hcut H' hH]; rfl
        refine callD (by rw [hv _ rfl]; exact hto1) ?_
        simp only [push_cast, Nat.reduceBEq, Nat.reduceAdd, Nat.reduceEqDiff, reduceCtorEq, Nat.reduceLeDiff, Nat.reduceSub, Nat.reduceMul, Nat.reduceLT, Int.reduceEq, Int.reduceLT, Int.reduceLE, Int.reduceBEq, Int.reduceBNe, Int.reduceToNat, Int.reduceNeg, Int.reduceSub, Int.reduceAdd, h0, h3, hrow, hw, edH, addE]
        have hsv : ∀ H' : Hp, AV.view H' (.agg [.lit (.int .i64 s.log), .lit (.int .i64 s.next), .lit (.int .i64 s.seq), c0, c1, c2, c3]) = stH s := fun H' => st_view l0 l1 l2 l3 H' _ _ _ rfl rfl rfl
        refine callD (by rw [List.map_cons, hsv]; exact hA1) ?_
        have hgt : (3 == g) = false := by rw [← Bool.not_eq_true, beq_iff_eq]; omega
        have hn3 : (nx == 3) = false := by rw [← Bool.not_eq_true, beq_iff_eq]; omega
        have hng : (nx == g) = false := by rw [← Bool.not_eq_true, beq_iff_eq]; omega
        have hk1 : (k : Int) ≤ (left.length : Int) := by omega
        have hbl : Nat.ble k left.length = true := by rw [Nat.ble_eq]; omega
        have hk10 : (k + 1 == 0) = false := by simp
        have hhd : headLen (left.map addH) = 5 := by
          cases left with
          | nil => exact absurd hk (Nat.not_lt_zero _)
          | cons a l' => rfl
        simp only [headLen] at hhd
        have hbl2 : Nat.ble (k + 1 + (left.length - (k + 1))) left.length = true := by rw [Nat.ble_eq]; omega
        have htn : ((left.length : Int) - ((k : Int) + 1)).toNat = left.length - (k + 1) := by omega
        have hT : List.take k (List.map addH left) = (left.take k).map addH := List.map_take.symm
        have hD : List.take (left.length - (k + 1)) (List.drop (k + 1) (List.map addH left)) = (left.drop (k + 1)).map addH := by
          rw [← List.map_drop, ← List.map_take, List.take_of_length_le (by rw [List.length_drop]; exact Nat.le_refl _)]
        obtain ⟨P, hP⟩ : ∃ P, left.take k = P := ⟨_, rfl⟩
        obtain ⟨D, hDD⟩ : ∃ D, left.drop (k + 1) = D := ⟨_, rfl⟩
        have hPl : P.length = k := by rw [← hP, List.length_take]; omega
        have hDl : D.length = left.length - (k + 1) := by rw [← hDD, List.length_drop]
        rw [hP] at hT hstep
        rw [hDD] at hD hstep
        have hPa : (∀ j : AddD, j ∈ P → (addH j).length = 5) = True := eq_true fun _ _ => rfl
        have hDa : (∀ j : AddD, j ∈ D → (addH j).length = 5) = True := eq_true fun _ _ => rfl
        have hPb : (P.length * 56 ≤ 140737488355328) = True := eq_true (by omega)
        have hDb : ((P.length + D.length) * 56 ≤ 140737488355328) = True := eq_true (by omega)
        have hwi := wrap_nat (k := i) (by omega)
        have hn1g : (nx + 1 == g) = false := by rw [← Bool.not_eq_true, beq_iff_eq]; omega
        have hn2g : (nx + 1 + 1 == g) = false := by rw [← Bool.not_eq_true, beq_iff_eq]; omega
        have hkz : (0 : Int) ≤ (k : Int) + 1 := by omega
        have hkt : ((k : Int) + 1).toNat = k + 1 := by omega
        have hk0 : ((k : Int) - 0).toNat = k := by omega
        clear hcut hv hsv hdr
        simp only [push_cast, Nat.reduceBEq, Nat.reduceAdd, Nat.reduceEqDiff, reduceCtorEq, Nat.reduceLeDiff, Nat.reduceSub, Nat.reduceMul, Nat.reduceLT, Int.reduceEq, Int.reduceLT, Int.reduceLE, Int.reduceBEq, Int.reduceBNe, Int.reduceToNat, Int.reduceNeg, Int.reduceSub, Int.reduceAdd, h0, h3, hrow, hw, stH, hgt, hng, hk1, hc2, hbl, hk10, hhd, hbl2, htn, hT, hD, hPa, hDa, hPb, hDb, hwi, hkz, hkt, hk0, hn1g, hn2g, nbq1_0 nx, nbq0_1 nx, nbq2_0 nx, nbq2_1 nx, nbq0_2 nx, nbq1_2 nx, List.not_mem_nil, false_implies]
        have e00 : (nx == 0) = false := by rw [← Bool.not_eq_true, beq_iff_eq]; omega
        have e10 : (nx + 1 == 0) = false := by rw [← Bool.not_eq_true, beq_iff_eq]; omega
        have e20 : (nx + 1 + 1 == 0) = false := by rw [← Bool.not_eq_true, beq_iff_eq]; omega
        have e13 : (nx + 1 == 3) = false := by rw [← Bool.not_eq_true, beq_iff_eq]; omega
        have e23 : (nx + 1 + 1 == 3) = false := by rw [← Bool.not_eq_true, beq_iff_eq]; omega
        have hPD : P.length + D.length = (P ++ D).length := List.length_append.symm
        have hPD2 : (P ++ D).length + 1 = left.length := by rw [← hPD]; omega
        rw [hPD]
        refine ⟨(P ++ D).length, by omega, i + 1, nx + 1 + 1, nx + 1 + 1 + 1, _, s', f', done ++ [x], P ++ D, _, _, _, _, rfl, rfl, hstep, by omega, by omega, by omega, by omega, ?_, ?_, .inr rfl, .inr rfl, .inr rfl, .inr rfl, ?_⟩
        · simp only [upd_at, beqE, e00, e10, e20, cond_false, show (3 == 0) = false from rfl]; exact h0
        · simp only [upd_at, beqE, hn3, e13, e23, cond_false, beq_self_eq_true, cond_true]
        · rw [upd_same, List.map_append]
    · have hfb : (f == 0) = false := by rw [← Bool.not_eq_true, beq_iff_eq]; exact hf
      have hr0 : (r == 0) = false := by
        rw [← Bool.not_eq_true, beq_iff_eq]
        intro e
        exact inv.bad hf ((hlaw.1 e).1)
      have hr1 : (r != 0) = true := by simpa [bne] using hr0
      have hpos : (0 : Int) < (left.length : Int) := by omega
      simp (maxSteps := 1000000) only [push_cast, Nat.reduceBEq, Nat.reduceAdd, Nat.reduceEqDiff, reduceCtorEq, Nat.reduceLeDiff, Nat.reduceSub, Nat.reduceMul, Nat.reduceLT, Int.reduceEq, Int.reduceLT, Int.reduceLE, Int.reduceBEq, Int.reduceBNe, Int.reduceToNat, Int.reduceNeg, Int.reduceSub, Int.reduceAdd, hpos, hfb, hr0, hr1, h0, h3, stC]
  · have hpos : ¬ (0 : Int) < (left.length : Int) := by omega
    have hnil : left = [] := List.eq_nil_of_length_eq_zero (by omega)
    by_cases hf : f = 0
    · subst hf
      obtain ⟨hw, hh, hok⟩ := inv.wf rfl
      have hp := inv.perm rfl
      rw [hnil, List.append_nil] at hp
      have hr : r = 0 := hlaw.2 (hok.perm hp)
      subst hr
      obtain ⟨b1, b2, b3, b4, b5⟩ := hlaw.1 rfl
      have hws := hwf rfl
      have hdl : done.length = L.length := hp.length_eq
      have hpL : L.Perm done := hp.symm
      have hlv := hasT_eq hws hw b2 hh hpL
      obtain ⟨n1, n2, n3⟩ := inv.nums rfl
      have hEq : stH s1 = stH s := by
        unfold stH
        rw [hlv 0 (by omega), hlv 1 (by omega), hlv 2 (by omega), hlv 3 (by omega), b3, b4, b5, n1, n2, n3]; rfl
      have hl1 : ∀ i, i < 4 → (s1.lv i).length ≤ 1000000 := fun i hi => by have := hasT_len b2 i hi; omega
      have hl2 : ∀ i, i < 4 → (s.lv i).length ≤ 1000000 := fun i hi => by have := hasT_len hh i hi; omega
      have hS1 := state_h s1 hl1
      have hS2 := state_h s hl2
      have hSm := Same_refl s hl2
      have hfi := files_h s hw.uq (fun i hi => by have := hasT_len hh i hi; omega)
      have hfl : (filesS s).length = L.length := by
        unfold filesS
        rw [(sortZ_perm _).length_eq, List.length_map, ← hdl, ← hasT_count hh (add_lvl4 hok.add)]
        unfold allS countS
        simp only [List.length_append]; omega
      have hsv : ∀ H' : Hp, AV.view H' (.agg [.lit (.int .i64 s.log), .lit (.int .i64 s.next), .lit (.int .i64 s.seq), c0, c1, c2, c3]) = stH s := fun H' => st_view l0 l1 l2 l3 H' _ _ _ rfl rfl rfl
      simp only [push_cast, Nat.reduceBEq, Nat.reduceAdd, Nat.reduceEqDiff, reduceCtorEq, Nat.reduceLeDiff, Nat.reduceSub, Nat.reduceMul, Nat.reduceLT, Int.reduceEq, Int.reduceLT, Int.reduceLE, Int.reduceBEq, Int.reduceBNe, Int.reduceToNat, Int.reduceNeg, Int.reduceSub, Int.reduceAdd, hpos, h0, h3, stC]
      refine callD hS1 ?_
      rw [hEq]
      simp only [push_cast, Nat.reduceBEq, Nat.reduceAdd, Nat.reduceEqDiff, reduceCtorEq, Nat.reduceLeDiff, Nat.reduceSub, Nat.reduceMul, Nat.reduceLT, Int.reduceEq, Int.reduceLT, Int.reduceLE, Int.reduceBEq, Int.reduceBNe, Int.reduceToNat, Int.reduceNeg, Int.reduceSub, Int.reduceAdd, h0, h3]
      refine callD (by rw [List.map_cons, hsv]; exact hS2) ?_
      simp only [push_cast, Nat.reduceBEq, Nat.reduceAdd, Nat.reduceEqDiff, reduceCtorEq, Nat.reduceLeDiff, Nat.reduceSub, Nat.reduceMul, Nat.reduceLT, Int.reduceEq, Int.reduceLT, Int.reduceLE, Int.reduceBEq, Int.reduceBNe, Int.reduceToNat, Int.reduceNeg, Int.reduceSub, Int.reduceAdd, h0, h3]
      refine callD (by exact hSm) ?_
      simp only [push_cast, Nat.reduceBEq, Nat.reduceAdd, Nat.reduceEqDiff, reduceCtorEq, Nat.reduceLeDiff, Nat.reduceSub, Nat.reduceMul, Nat.reduceLT, Int.reduceEq, Int.reduceLT, Int.reduceLE, Int.reduceBEq, Int.reduceBNe, Int.reduceToNat, Int.reduceNeg, Int.reduceSub, Int.reduceAdd, h0, h3]
      refine callD (by rw [List.map_cons, hsv]; exact hfi) ?_
      simp only [push_cast, Nat.reduceBEq, Nat.reduceAdd, Nat.reduceEqDiff, reduceCtorEq, Nat.reduceLeDiff, Nat.reduceSub, Nat.reduceMul, Nat.reduceLT, Int.reduceEq, Int.reduceLT, Int.reduceLE, Int.reduceBEq, Int.reduceBNe, Int.reduceToNat, Int.reduceNeg, Int.reduceSub, Int.reduceAdd, h0, h3, hfl]
    · have hfb : (f == 0) = false := by rw [← Bool.not_eq_true, beq_iff_eq]; exact hf
      have hr0 : (r == 0) = false := by
        rw [← Bool.not_eq_true, beq_iff_eq]
        intro e
        exact inv.bad hf ((hlaw.1 e).1)
      have hr1 : (r != 0) = true := by simpa [bne] using hr0
      simp (maxSteps := 1000000) only [push_cast, Nat.reduceBEq, Nat.reduceAdd, Nat.reduceEqDiff, reduceCtorEq, Nat.reduceLeDiff, Nat.reduceSub, Nat.reduceMul, Nat.reduceLT, Int.reduceEq, Int.reduceLT, Int.reduceLE, Int.reduceBEq, Int.reduceBNe, Int.reduceToNat, Int.reduceNeg, Int.reduceSub, Int.reduceAdd, hpos, hfb, hr0, hr1, h0, h3, stC]
end Go.Proofs.Ytheanmfdfoefoaa
