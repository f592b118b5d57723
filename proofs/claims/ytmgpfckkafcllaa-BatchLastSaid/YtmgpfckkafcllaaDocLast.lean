/- Chapter 9: the document's Last, by the walk over a heap. -/
import Derived.Test.YtmgpfckkafcllaaBtLast
set_option linter.unusedVariables false
set_option linter.unusedSimpArgs false
namespace Go.Proofs.Ytmgpfckkafcllaa
open Go Go.RowKit Hv
set_option maxRecDepth 20000
set_option maxHeartbeats 8000000
/-- How many changes lie ahead of the first that has a greater key. -/
def twN (k : ByteArray) (l : List OpD) : Nat := (l.takeWhile (leK k)).length
theorem tw_le (k : ByteArray) : ∀ (l : List OpD), twN k l ≤ l.length
  | [] => Nat.le_refl _
  | a :: l => by
    unfold twN
    rw [List.takeWhile_cons]
    split
    · exact Nat.succ_le_succ (tw_le k l)
    · exact Nat.zero_le _
theorem tw_take (k : ByteArray) : ∀ (l : List OpD), l.takeWhile (leK k) = l.take (twN k l) ∧ l.dropWhile (leK k) = l.drop (twN k l)
  | [] => ⟨rfl, rfl⟩
  | a :: l => by
    obtain ⟨h1, h2⟩ := tw_take k l
    unfold twN at *
    rw [List.takeWhile_cons, List.dropWhile_cons]
    cases leK k a with
    | true =>
      refine ⟨?_, ?_⟩
      · show a :: _ = (a :: l).take ((l.takeWhile (leK k)).length + 1)
        rw [List.take_succ_cons, ← h1]
      · show _ = (a :: l).drop ((l.takeWhile (leK k)).length + 1)
        rw [List.drop_succ_cons, ← h2]; rfl
    | false => exact ⟨rfl, rfl⟩
/-- The next one is ahead, just if it is there and its key is not greater. -/
theorem tw_next {k : ByteArray} : ∀ {l : List OpD} {t : Nat} {x : OpD}, t ≤ twN k l → l[t]? = some x → (leK k x = true ↔ t < twN k l)
  | [], _, _, _, h => by simp at h
  | a :: l, t, x, ht, hx => by
    unfold twN at *
    rw [List.takeWhile_cons] at ht ⊢
    cases ha : leK k a with
    | true =>
      rw [ha] at ht
      cases t with
      | zero =>
        have : a = x := by simpa using hx
        subst this
        exact ⟨fun _ => Nat.succ_pos _, fun _ => ha⟩
      | succ t =>
        have hx' : l[t]? = some x := by simpa using hx
        have := tw_next (k := k) (l := l) (Nat.le_of_succ_le_succ ht) hx'
        exact ⟨fun h => Nat.succ_lt_succ (this.1 h), fun h => this.2 (Nat.lt_of_succ_lt_succ h)⟩
    | false =>
      rw [ha] at ht
      have ht : t ≤ 0 := ht
      obtain rfl : t = 0 := by omega
      have : a = x := by simpa using hx
      subst this
      exact ⟨fun h => (by rw [ha] at h; cases h), fun h => absurd h (Nat.lt_irrefl 0)⟩
theorem DocLast_h {H : Hp} {n : Nat} (ops : List OpD) (hl : ops.length ≤ 1000000) :
    HCalls Try.prog 21 [.sl (ops.map opI)] H n (NewOps H n (docLast ops)) := by
  refine hcallsC_of (rs := [.tmp 2]) ⟨[0, 2, 3, 4, 5, 6, 11, 30, 48], [], [], [(6, [(0, [], []), (1, [], []), (2, [], []), (3, [], []), (4, [], []), (5, [], []), (6, [], []), (7, [], []), (8, [], []), (9, [], []), (10, [], []), (11, [], []), (12, [], []), (13, [], []), (14, [], []), (15, [], []), (16, [], [])]), (7, [(0, [], []), (1, [], []), (2, [], []), (3, [], []), (4, [], []), (5, [], []), (6, [], []), (7, [], []), (8, [], []), (9, [], []), (10, [], []), (11, [], []), (12, [], []), (13, [], []), (14, [], [13, 1, 0, 2, 3, 4, 5, 6, 7, 8, 9, 10, 11, 12])]), (10, [(1, [], []), (2, [], []), (3, [], []), (5, [], []), (6, [], []), (7, [], []), (8, [], []), (9, [], []), (11, [], []), (12, [], []), (13, [], []), (0, [7, 8], []), (4, [7, 8], [0, 3, 1, 2]), (10, [], [4, 9, 0, 3, 8, 1, 2, 7, 5, 6]), (14, [], [10, 13, 4, 9, 11, 12, 0, 3, 8, 1, 2, 7, 5, 6]), (15, [], [14, 0, 1, 2, 3, 4, 5, 6, 7, 8, 9, 10, 11, 12, 13])])]⟩ TOk mixed Try.func21 rfl rfl (by kernel_rfl) (by kernel_rfl) rfl ?_
  have hw0 : IntKind.i64.wrap ((ops.length : Int) - 1) = (ops.length : Int) - 1 := IntWalk.i64_in _ (by omega)
  simp only [push_cast, Nat.reduceBEq, Nat.reduceAdd, Nat.reduceEqDiff, reduceCtorEq, Nat.reduceLeDiff, Nat.reduceSub, Nat.reduceMul, Nat.reduceLT, Int.reduceEq, Int.reduceLT, Int.reduceLE, Int.reduceBEq, Int.reduceBNe, Int.reduceToNat, Int.reduceNeg, Int.reduceSub, Int.reduceAdd, hw0]
  refine loopK (fun q s => ∃ (k g : Nat) (L : List OpD) (z : Int) (Hc : Hp) (nn : Nat), s = ⟨[(0, .sl (ops.map opI)), (3, .rw g 3 0 L.length), (4, .lit (.int .i64 z))], Hc, nn⟩ ∧ k ≤ ops.length ∧ q = k ∧ z = (k : Int) - 1 ∧ L = docLast (ops.drop k) ∧ Hc g = some (.row false 24 (L.map opI)) ∧ n ≤ g ∧ g < nn ∧ ∀ j, j < n → Hc j = H j) _ [0, 3, 4] ⟨ops.length, n + 1, [], _, _, _, rfl, Nat.le_refl _, rfl, rfl, by rw [List.drop_length]; rfl, upd_same _ _ _, by omega, Nat.lt_succ_self _, fun j hj => (upd_other (by omega)).trans (upd_other (by omega))⟩ ?_
  rintro q _ ⟨k, g, L, z, Hc, nn, rfl, hk, hqk, hz, hL, hg, hg1, hg2, hh⟩
  subst hqk
  cases q with
  | zero =>
    have hz0 : ¬ z ≥ 0 := by omega
    simp only [push_cast, Nat.reduceBEq, Nat.reduceAdd, Nat.reduceEqDiff, reduceCtorEq, Nat.reduceLeDiff, Nat.reduceSub, Nat.reduceMul, Nat.reduceLT, Int.reduceEq, Int.reduceLT, Int.reduceLE, Int.reduceBEq, Int.reduceBNe, Int.reduceToNat, Int.reduceNeg, Int.reduceSub, Int.reduceAdd, hz0]
    rw [List.drop_zero] at hL
    rw [← hL]
    exact ⟨g, rfl, hg1, hg2, hg, hh⟩
  | succ k1 =>
    obtain rfl : z = (k1 : Int) := by omega
    have hz0 : (k1 : Int) ≥ 0 := by omega
    have hk1 : k1 < ops.length := by omega
    have hk1' : (k1 : Int) < (ops.length : Int) := by omega
    obtain ⟨o, ho⟩ : ∃ o, ops[k1]? = some o := ⟨_, List.getElem?_eq_getElem hk1⟩
    have hw2 : IntKind.i64.wrap ((k1 : Int) - 1) = (k1 : Int) - 1 := IntWalk.i64_in _ (by omega)
    have hLl : L.length ≤ ops.length := by
      have := docLast_len (ops.drop (k1 + 1))
      rw [← hL, List.length_drop] at this; omega
    have e1 : (nn == g) = false := nb (by omega)
    simp only [push_cast, Nat.reduceBEq, Nat.reduceAdd, Nat.reduceEqDiff, reduceCtorEq, Nat.reduceLeDiff, Nat.reduceSub, Nat.reduceMul, Nat.reduceLT, Int.reduceEq, Int.reduceLT, Int.reduceLE, Int.reduceBEq, Int.reduceBNe, Int.reduceToNat, Int.reduceNeg, Int.reduceSub, Int.reduceAdd, hz0]
    refine loopK (fun q s => ∃ (t : Nat), s = ⟨[(0, .sl (ops.map opI)), (3, .rw g 3 0 L.length), (4, .lit (.int .i64 (k1 : Int))), (5, .lit (.int .i64 (t : Int))), (6, .lit (.bool ((L.take t).any fun x => decide (x.key = o.key))))], Hc, nn⟩ ∧ t ≤ twN o.key L ∧ q = L.length - t) _ [0, 3, 4, 5, 6] ⟨0, rfl, Nat.zero_le _, rfl⟩ ?_
    rintro q _ ⟨t, rfl, ht, rfl⟩
    have htl := tw_le o.key L
    by_cases htL : t < L.length
    · have htL' : (t : Int) < (L.length : Int) := by omega
      obtain ⟨x, hx⟩ : ∃ x, L[t]? = some x := ⟨_, List.getElem?_eq_getElem htL⟩
      have hw := wrap_nat0 (k := t) (by omega)
      have hnx := tw_next ht hx
      obtain ⟨B, hB⟩ : ∃ B, leK o.key x = B := ⟨_, rfl⟩
      have hB2 : (Op.bytesLess x.key.toList o.key.toList || x.key.toList == o.key.toList) = B := hB
      cases B with
      | true =>
        have htt := hnx.1 hB
        obtain ⟨E, hE⟩ : ∃ E, (x.key.toList == o.key.toList) = E := ⟨_, rfl⟩
        have hE' : decide (x.key = o.key) = E := by
          rw [← hE]
          by_cases hc : x.key = o.key
          · rw [decide_eq_true hc, hc]; exact (beq_self_eq_true _).symm
          · rw [decide_eq_false hc]; exact (beq_eq_false_iff_ne.2 fun e => hc (toList_inj e)).symm
        have hB3 : (Op.bytesLess x.key.toList o.key.toList || E) = true := by rw [← hE]; exact hB2
        have htk : (L.take (t + 1)).any (fun x => decide (x.key = o.key)) = ((L.take t).any (fun x => decide (x.key = o.key)) || E) := by
          rw [List.take_add_one, hx, List.any_append, ← hE']
          show (_ || (decide (x.key = o.key) || false)) = _
          rw [Bool.or_false]
        cases hTH : (L.take t).any fun x => decide (x.key = o.key) with
        | true =>
          simp only [push_cast, Nat.reduceBEq, Nat.reduceAdd, Nat.reduceEqDiff, reduceCtorEq, Nat.reduceLeDiff, Nat.reduceSub, Nat.reduceMul, Nat.reduceLT, Int.reduceEq, Int.reduceLT, Int.reduceLE, Int.reduceBEq, Int.reduceBNe, Int.reduceToNat, Int.reduceNeg, Int.reduceSub, Int.reduceAdd, htL, htL', hk1, hk1', hx, ho, hg, hB2, hB3, hE, hTH, opI, ops_ble, ops_take, hw, hz0]
          exact ⟨_, by omega, t + 1, by rw [htk, hTH]; rfl, htt, rfl⟩
        | false =>
          simp only [push_cast, Nat.reduceBEq, Nat.reduceAdd, Nat.reduceEqDiff, reduceCtorEq, Nat.reduceLeDiff, Nat.reduceSub, Nat.reduceMul, Nat.reduceLT, Int.reduceEq, Int.reduceLT, Int.reduceLE, Int.reduceBEq, Int.reduceBNe, Int.reduceToNat, Int.reduceNeg, Int.reduceSub, Int.reduceAdd, htL, htL', hk1, hk1', hx, ho, hg, hB2, hB3, hE, hTH, opI, ops_ble, ops_take, hw, hz0]
          exact ⟨_, by omega, t + 1, by rw [htk, hTH]; rfl, htt, rfl⟩
      | false =>
        have hno : ¬ t < twN o.key L := fun h => by rw [hnx.2 h] at hB; cases hB
        have htw : t = twN o.key L := by omega
        obtain ⟨w1, w2⟩ := tw_take o.key L
        rw [← htw] at w1 w2
        have hstep : docLast (ops.drop k1) = insO o L := by
          rw [hL, List.drop_eq_getElem_cons hk1]
          show insO (ops[k1]) _ = insO o _
          rw [show ops[k1] = o from Option.some.inj ((List.getElem?_eq_getElem hk1).symm.trans ho)]; rfl
        cases hTH : (L.take t).any fun x => decide (x.key = o.key) with
        | true =>
          have hin : insO o L = L := by unfold insO; rw [w1, hTH, if_pos rfl]
          simp only [push_cast, Nat.reduceBEq, Nat.reduceAdd, Nat.reduceEqDiff, reduceCtorEq, Nat.reduceLeDiff, Nat.reduceSub, Nat.reduceMul, Nat.reduceLT, Int.reduceEq, Int.reduceLT, Int.reduceLE, Int.reduceBEq, Int.reduceBNe, Int.reduceToNat, Int.reduceNeg, Int.reduceSub, Int.reduceAdd, htL, htL', hk1, hk1', hx, ho, hB2, hz0, ops_ble, ops_take, hg, opI, hTH, hw2]
          exact ⟨_, Nat.lt_succ_self k1, k1, g, L, _, Hc, nn, rfl, by omega, rfl, rfl, by rw [hstep, hin], hg, hg1, hg2, hh⟩
        | false =>
          have hin : insO o L = L.take t ++ o :: L.drop t := by unfold insO; rw [w1, w2, hTH, if_neg (fun h => by cases h)]
          have c1 : (0 : Int) ≤ (t : Int) := by omega
          have c2 : (t : Int) ≤ (L.length : Int) := by omega
          have c3 : (t : Int).toNat = t := by omega
          have c4 : ((t : Int) - 0).toNat = t := by omega
          have c5 : ((L.length : Int) - (t : Int)).toNat = L.length - t := by omega
          have f1 : (nn + 1 == g) = false := nb (by omega)
          have f2 : (nn + 1 + 1 == g) = false := nb (by omega)
          have f3 : (nn + 1 + 1 + 1 == g) = false := nb (by omega)
          have f4 : (nn + 1 + 1 + 1 + 1 == g) = false := nb (by omega)
          have htk : List.take t (List.map opI L) = List.map opI (L.take t) := List.map_take.symm
          have hdk : List.take (L.length - t) (List.drop t (List.map opI L)) = List.map opI (L.drop t) := by rw [← List.map_drop]; exact List.take_of_length_le (by rw [List.length_map, List.length_drop]; exact Nat.le_refl _)
          have hhl : 0 < t → headLen (List.map opI L) = 3 := fun h0 => by
            cases L with
            | nil => simp only [List.length_nil] at c2; omega
            | cons a L => rfl
          have hb1 : Nat.ble t L.length = true := by rw [Nat.ble_eq]; omega
          have hb2 : Nat.ble (t + (L.length - t)) L.length = true := by rw [Nat.ble_eq]; omega
          rcases Nat.eq_zero_or_pos t with ht0 | ht0
          · subst ht0
            have d4 : (0 : Int) < (L.length : Int) := by omega
            have d1 : ((L.length : Int) - 0).toNat = L.length := by omega
            have d2 : (0 : Int) ≤ (L.length : Int) := by omega
            have d3 : (L.length : Int) ≤ (L.length : Int) := Int.le_refl _
            have q0 : (L.length + 1) * 40 ≤ 140737488355328 := by omega
            have z0b : Nat.ble 0 L.length = true := by rw [Nat.ble_eq]; exact Nat.zero_le _
            have q00 : (1 + L.length) * 40 ≤ 140737488355328 := by omega
            have hal : (∀ it, it ∈ List.map opI L → it.length = 3) = True := eq_true fun it hit => by obtain ⟨y, _, rfl⟩ := List.mem_map.1 hit; rfl
            simp (maxSteps := 200000) only [push_cast, Nat.reduceBEq, Nat.reduceAdd, Nat.reduceEqDiff, reduceCtorEq, Nat.reduceLeDiff, Nat.reduceSub, Nat.reduceMul, Nat.reduceLT, Int.reduceEq, Int.reduceLT, Int.reduceLE, Int.reduceBEq, Int.reduceBNe, Int.reduceToNat, Int.reduceNeg, Int.reduceSub, Int.reduceAdd, htL, htL', hk1, hk1', hx, ho, hB2, hz0, ops_ble, ops_take, hg, opI, d4, hz0, hw2, hTH, hk1, hk1', ho, hg, opI, e1, f1, f2, f3, f4, List.not_mem_nil, false_implies, c5, d1, d2, d3, q0, q00, hal, z0b, implies_true, ops_ble, ops_take, List.take_zero, List.drop_zero, List.length_map, List.length_append, List.length_cons, List.length_nil, List.nil_append, List.map_nil]
            rw [Nat.add_comm 1 L.length]
            have hin0 : insO o L = o :: L := by rw [hin, List.take_zero, List.drop_zero]; rfl
            exact ⟨_, Nat.lt_succ_self k1, k1, nn + 1 + 1 + 1, o :: L, _, _, _, rfl, by omega, rfl, rfl, by rw [hstep, hin0], (upd_same _ _ _).trans rfl, by omega, by omega, fun j hj => by rw [upd_other (by omega), upd_other (by omega), upd_other (by omega), upd_other (by omega), upd_other (by omega), upd_other (by omega), upd_other (by omega)]; exact hh j hj⟩
          replace hhl := hhl ht0
          unfold headLen at hhl
          have hal : (∀ it, it ∈ List.map opI (L.drop t) → it.length = 3) = True := eq_true fun it hit => by obtain ⟨y, _, rfl⟩ := List.mem_map.1 hit; rfl
          have hb0 : (t == 0) = false := nb (by omega)
          have hb0' : Nat.beq t 0 = false := by
            cases t with
            | zero => omega
            | succ t => rfl
          have htl' : (L.take t).length = t := by rw [List.length_take]; omega
          have hdl' : (L.drop t).length = L.length - t := List.length_drop ..
          have q1 : (L.take t).length * 40 ≤ 140737488355328 := by omega
          have q2 : ((L.take t).length + 1) * 40 ≤ 140737488355328 := by omega
          have q3 : ((L.take t).length + 1 + (L.drop t).length) * 40 ≤ 140737488355328 := by omega
          have q4 : ((L.take t).length + 1 + (L.length - t)) * 40 ≤ 140737488355328 := by omega
          simp (maxSteps := 200000) only [push_cast, Nat.reduceBEq, Nat.reduceAdd, Nat.reduceEqDiff, reduceCtorEq, Nat.reduceLeDiff, Nat.reduceSub, Nat.reduceMul, Nat.reduceLT, Int.reduceEq, Int.reduceLT, Int.reduceLE, Int.reduceBEq, Int.reduceBNe, Int.reduceToNat, Int.reduceNeg, Int.reduceSub, Int.reduceAdd, htL, htL', hk1, hk1', hx, ho, hB2, hz0, ops_ble, ops_take, hg, opI, hz0, hw2, hTH, hk1, hk1', ho, hg, opI, e1, f1, f2, f3, f4, List.not_mem_nil, false_implies, c1, c2, c3, c4, c5, htk, hdk, hhl, hb1, hb2, hb0, hb0', List.length_map, List.length_append, List.length_cons, List.length_nil, q1, q2, q3, q4, hal]
          obtain ⟨L2, hL2⟩ : ∃ L2, L.take t ++ o :: L.drop t = L2 := ⟨_, rfl⟩
          have hl2 : (L.take t).length + 1 + (L.drop t).length = L2.length := by rw [← hL2, List.length_append, List.length_cons]; omega
          have hit2 : List.map opI (L.take t) ++ [[.lit (.int .i64 o.kind), .lit (.string o.key), .lit (.string o.val)]] ++ List.map opI (L.drop t) = List.map opI L2 := by rw [← hL2, List.map_append, List.map_cons, List.append_assoc]; rfl
          rw [hl2, hit2]
          exact ⟨_, Nat.lt_succ_self k1, k1, nn + 1 + 1 + 1, L2, _, _, _, rfl, by omega, rfl, rfl, by rw [hstep, hin, hL2], upd_same _ _ _, by omega, by omega, fun j hj => by rw [upd_other (by omega), upd_other (by omega), upd_other (by omega), upd_other (by omega), upd_other (by omega), upd_other (by omega), upd_other (by omega)]; exact hh j hj⟩
    · have htw : t = twN o.key L := by omega
      obtain ⟨w1, w2⟩ := tw_take o.key L
      rw [← htw] at w1 w2
      have hstep : docLast (ops.drop k1) = insO o L := by
        rw [hL, List.drop_eq_getElem_cons hk1]
        show insO (ops[k1]) _ = insO o _
        rw [show ops[k1] = o from Option.some.inj ((List.getElem?_eq_getElem hk1).symm.trans ho)]; rfl
      cases hTH : (L.take t).any fun x => decide (x.key = o.key) with
      | true =>
        have hin : insO o L = L := by unfold insO; rw [w1, hTH, if_pos rfl]
        simp only [push_cast, Nat.reduceBEq, Nat.reduceAdd, Nat.reduceEqDiff, reduceCtorEq, Nat.reduceLeDiff, Nat.reduceSub, Nat.reduceMul, Nat.reduceLT, Int.reduceEq, Int.reduceLT, Int.reduceLE, Int.reduceBEq, Int.reduceBNe, Int.reduceToNat, Int.reduceNeg, Int.reduceSub, Int.reduceAdd, htL, hk1, hk1', ho, hz0, ops_ble, ops_take, hg, opI, hTH, hw2]
        exact ⟨_, Nat.lt_succ_self k1, k1, g, L, _, Hc, nn, rfl, by omega, rfl, rfl, by rw [hstep, hin], hg, hg1, hg2, hh⟩
      | false =>
        have hin : insO o L = L.take t ++ o :: L.drop t := by unfold insO; rw [w1, w2, hTH, if_neg (fun h => by cases h)]
        have c1 : (0 : Int) ≤ (t : Int) := by omega
        have c2 : (t : Int) ≤ (L.length : Int) := by omega
        have c3 : (t : Int).toNat = t := by omega
        have c4 : ((t : Int) - 0).toNat = t := by omega
        have c5 : ((L.length : Int) - (t : Int)).toNat = L.length - t := by omega
        have f1 : (nn + 1 == g) = false := nb (by omega)
        have f2 : (nn + 1 + 1 == g) = false := nb (by omega)
        have f3 : (nn + 1 + 1 + 1 == g) = false := nb (by omega)
        have f4 : (nn + 1 + 1 + 1 + 1 == g) = false := nb (by omega)
        have htk : List.take t (List.map opI L) = List.map opI (L.take t) := List.map_take.symm
        have hdk : List.take (L.length - t) (List.drop t (List.map opI L)) = List.map opI (L.drop t) := by rw [← List.map_drop]; exact List.take_of_length_le (by rw [List.length_map, List.length_drop]; exact Nat.le_refl _)
        have hhl : 0 < t → headLen (List.map opI L) = 3 := fun h0 => by
          cases L with
          | nil => simp only [List.length_nil] at c2; omega
          | cons a L => rfl
        have hb1 : Nat.ble t L.length = true := by rw [Nat.ble_eq]; omega
        have hb2 : Nat.ble (t + (L.length - t)) L.length = true := by rw [Nat.ble_eq]; omega
        rcases Nat.eq_zero_or_pos t with ht0 | ht0
        · subst ht0
          have d4 : ¬ (0 : Int) < (L.length : Int) := by omega
          have d1 : ((L.length : Int) - 0).toNat = L.length := by omega
          have d2 : (0 : Int) ≤ (L.length : Int) := by omega
          have d3 : (L.length : Int) ≤ (L.length : Int) := Int.le_refl _
          have q0 : (L.length + 1) * 40 ≤ 140737488355328 := by omega
          have z0b : Nat.ble 0 L.length = true := by rw [Nat.ble_eq]; exact Nat.zero_le _
          have q00 : (1 + L.length) * 40 ≤ 140737488355328 := by omega
          have hal : (∀ it, it ∈ List.map opI L → it.length = 3) = True := eq_true fun it hit => by obtain ⟨y, _, rfl⟩ := List.mem_map.1 hit; rfl
          simp (maxSteps := 200000) only [push_cast, Nat.reduceBEq, Nat.reduceAdd, Nat.reduceEqDiff, reduceCtorEq, Nat.reduceLeDiff, Nat.reduceSub, Nat.reduceMul, Nat.reduceLT, Int.reduceEq, Int.reduceLT, Int.reduceLE, Int.reduceBEq, Int.reduceBNe, Int.reduceToNat, Int.reduceNeg, Int.reduceSub, Int.reduceAdd, htL, hk1, hk1', ho, hz0, ops_ble, ops_take, hg, opI, d4, hz0, hw2, hTH, hk1, hk1', ho, hg, opI, e1, f1, f2, f3, f4, List.not_mem_nil, false_implies, c5, d1, d2, d3, q0, q00, hal, z0b, implies_true, ops_ble, ops_take, List.take_zero, List.drop_zero, List.length_map, List.length_append, List.length_cons, List.length_nil, List.nil_append, List.map_nil]
          rw [Nat.add_comm 1 L.length]
          have hin0 : insO o L = o :: L := by rw [hin, List.take_zero, List.drop_zero]; rfl
          exact ⟨_, Nat.lt_succ_self k1, k1, nn + 1 + 1 + 1, o :: L, _, _, _, rfl, by omega, rfl, rfl, by rw [hstep, hin0], (upd_same _ _ _).trans rfl, by omega, by omega, fun j hj => by rw [upd_other (by omega), upd_other (by omega), upd_other (by omega), upd_other (by omega), upd_other (by omega), upd_other (by omega), upd_other (by omega)]; exact hh j hj⟩
        replace hhl := hhl ht0
        unfold headLen at hhl
        have hal : (∀ it, it ∈ List.map opI (L.drop t) → it.length = 3) = True := eq_true fun it hit => by obtain ⟨y, _, rfl⟩ := List.mem_map.1 hit; rfl
        have hb0 : (t == 0) = false := nb (by omega)
        have hb0' : Nat.beq t 0 = false := by
          cases t with
          | zero => omega
          | succ t => rfl
        have htl' : (L.take t).length = t := by rw [List.length_take]; omega
        have hdl' : (L.drop t).length = L.length - t := List.length_drop ..
        have q1 : (L.take t).length * 40 ≤ 140737488355328 := by omega
        have q2 : ((L.take t).length + 1) * 40 ≤ 140737488355328 := by omega
        have q3 : ((L.take t).length + 1 + (L.drop t).length) * 40 ≤ 140737488355328 := by omega
        have q4 : ((L.take t).length + 1 + (L.length - t)) * 40 ≤ 140737488355328 := by omega
        simp (maxSteps := 200000) only [push_cast, Nat.reduceBEq, Nat.reduceAdd, Nat.reduceEqDiff, reduceCtorEq, Nat.reduceLeDiff, Nat.reduceSub, Nat.reduceMul, Nat.reduceLT, Int.reduceEq, Int.reduceLT, Int.reduceLE, Int.reduceBEq, Int.reduceBNe, Int.reduceToNat, Int.reduceNeg, Int.reduceSub, Int.reduceAdd, htL, hk1, hk1', ho, hz0, ops_ble, ops_take, hg, opI, hz0, hw2, hTH, hk1, hk1', ho, hg, opI, e1, f1, f2, f3, f4, List.not_mem_nil, false_implies, c1, c2, c3, c4, c5, htk, hdk, hhl, hb1, hb2, hb0, hb0', List.length_map, List.length_append, List.length_cons, List.length_nil, q1, q2, q3, q4, hal]
        obtain ⟨L2, hL2⟩ : ∃ L2, L.take t ++ o :: L.drop t = L2 := ⟨_, rfl⟩
        have hl2 : (L.take t).length + 1 + (L.drop t).length = L2.length := by rw [← hL2, List.length_append, List.length_cons]; omega
        have hit2 : List.map opI (L.take t) ++ [[.lit (.int .i64 o.kind), .lit (.string o.key), .lit (.string o.val)]] ++ List.map opI (L.drop t) = List.map opI L2 := by rw [← hL2, List.map_append, List.map_cons, List.append_assoc]; rfl
        rw [hl2, hit2]
        exact ⟨_, Nat.lt_succ_self k1, k1, nn + 1 + 1 + 1, L2, _, _, _, rfl, by omega, rfl, rfl, by rw [hstep, hin, hL2], upd_same _ _ _, by omega, by omega, fun j hj => by rw [upd_other (by omega), upd_other (by omega), upd_other (by omega), upd_other (by omega), upd_other (by omega), upd_other (by omega), upd_other (by omega)]; exact hh j hj⟩
end Go.Proofs.Ytmgpfckkafcllaa
