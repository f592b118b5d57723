/- Chapter 9's Cells: the document's Place and DocCells, by the walk over a heap. -/
import Derived.Test.YtmgpfckkafcllaaBcW
set_option linter.unusedVariables false
set_option linter.unusedSimpArgs false
namespace Go.Proofs.Ytmgpfckkafcllaa
open Go Go.RowKit Hv
theorem below_two {w : World} {o1 o2 : Obj} : Below w.heap.size w ((w.alloc o1).alloc o2) := ((Below.refl _ _).alloc (Nat.le_refl _) _).alloc (by simp) _
set_option maxRecDepth 100000 in
set_option maxHeartbeats 1000000 in
theorem LessR_calls (a b : CellD) (w : World) : Calls Try.prog 47 #[.agg #[.string a.key, .int .i64 a.seq, .int .i64 a.kind], .agg #[.string b.key, .int .i64 b.seq, .int .i64 b.kind]] w fun e w' => e = .returned (.bool (lessV a b)) ∧ Below w.heap.size w w' := by
  have hc := less_cases a b
  generalize lessV a b = r at *
  obtain ⟨key, seq, kind, val⟩ := a
  obtain ⟨key2, seq2, kind2, val2⟩ := b
  simp only at hc
  go_enter Try.func47, Try.ntmps47
  rcases hc with ⟨h1, rfl⟩ | ⟨h1, h2, rfl⟩ | ⟨h1, h2, rfl⟩ | ⟨h1, rfl, h3, rfl⟩ | ⟨h1, rfl, h3, rfl⟩
  · have k1 : (key.toList == key2.toList) = false := by simpa using h1
    clear h1
    go_wp2_with fail
    go_ret
    exact ⟨rfl, below_two⟩
  all_goals
    have k1 : (key.toList == key2.toList) = true := by simpa using h1
    clear h1
  · have h2' : (seq != seq2) = true := by simp; omega
    have h2'' : seq > seq2 := h2
    go_wp2_with fail
    go_ret
    exact ⟨rfl, below_two⟩
  · have h2' : (seq != seq2) = true := by simp; omega
    have h2'' : ¬ seq > seq2 := by omega
    have h2''' : ¬ seq2 < seq := by omega
    go_wp2_with fail
    go_ret
    exact ⟨rfl, below_two⟩
  · have h2' : (seq != seq) = false := by simp
    go_wp2_with fail
    go_ret
    exact ⟨rfl, below_two⟩
  · have h2' : (seq != seq) = false := by simp
    have h3' : ¬ kind2 < kind := by omega
    go_wp2_with fail
    go_ret
    exact ⟨rfl, below_two⟩
set_option maxRecDepth 20000
set_option maxHeartbeats 8000000
def NewCells (m : Bool) (H : Hp) (n : Nat) (l : List CellD) (r : AV) (H' : Hp) (n' : Nat) : Prop := ∃ g, r = .rw g 4 0 l.length ∧ n ≤ g ∧ g < n' ∧ H' g = some (.row m 48 (l.map cellH)) ∧ ∀ j, j < n → H' j = H j
theorem cells_ble (l : List CellD) : Nat.ble l.length (l.map cellH).length = true := by rw [Nat.ble_eq, List.length_map]; exact Nat.le_refl _
theorem cells_take (l : List CellD) : List.take l.length (l.map cellH) = l.map cellH := List.take_of_length_le (by rw [List.length_map]; exact Nat.le_refl _)
theorem lessR_h (a b : CellD) : Hv.ACalls Try.prog 47 [.agg [.lit (.string a.key), .lit (.int .i64 a.seq), .lit (.int .i64 a.kind)], .agg [.lit (.string b.key), .lit (.int .i64 b.seq), .lit (.int .i64 b.kind)]] (.lit (.bool (lessV a b))) :=
  acalls_lit (us := [.agg #[.string a.key, .int .i64 a.seq, .int .i64 a.kind], .agg #[.string b.key, .int .i64 b.seq, .int .i64 b.kind]]) (by kernel_rfl) rfl fun w => LessR_calls a b w
theorem Place_h {H : Hp} {n g : Nat} (L : List CellD) (c : CellD) (hg : H g = some (.row false 48 (L.map cellH))) (hgn : g < n) (hl : L.length ≤ 1000000) :
    HCalls Try.prog 35 [.rw g 4 0 L.length, .agg (cellH c)] H n (NewCells false H n (placeL L c)) := by
  refine hcallsC_of (rs := [.tmp 4]) ⟨[0, 1, 3, 4, 5, 19], [], [], [(2, [(0, [], []), (1, [], []), (2, [], []), (3, [], []), (4, [], []), (5, [], []), (6, [], []), (7, [], []), (8, [], []), (9, [], []), (10, [], []), (11, [], []), (12, [], [9, 11, 4, 8, 10, 3, 7, 0, 2, 5, 6, 1]), (13, [], [])]), (4, [(1, [], []), (2, [], []), (3, [], []), (5, [], []), (6, [], []), (8, [], []), (9, [], []), (10, [], []), (0, [5], []), (4, [5], [0, 3, 1, 2]), (7, [], [4, 6, 0, 3, 5, 1, 2]), (11, [], [7, 10, 4, 6, 8, 9, 0, 3, 5, 1, 2]), (12, [], [11, 0, 1, 2, 3, 4, 5, 6, 7, 8, 9, 10])])], [], []⟩ TOk mixed Try.func35 rfl rfl (by kernel_rfl) (by kernel_rfl) rfl ?_
  have b1 : (n == g) = false := nb (by omega)
  have b2 : (n + 1 == g) = false := nb (by omega)
  have b3 : (n + 1 + 1 == g) = false := nb (by omega)
  have b4 : (n + 1 + 1 + 1 == g) = false := nb (by omega)
  have b5 : (n + 1 + 1 + 1 + 1 == g) = false := nb (by omega)
  have b6 : (n + 1 + 1 + 1 + 1 + 1 == g) = false := nb (by omega)
  have b7 : (n + 1 + 1 + 1 + 1 + 1 + 1 == g) = false := nb (by omega)
  simp only [push_cast, Nat.reduceBEq, Nat.reduceAdd, Nat.reduceEqDiff, reduceCtorEq, Nat.reduceLeDiff, Nat.reduceSub, Nat.reduceMul, Nat.reduceLT, Int.reduceEq, Int.reduceLT, Int.reduceLE, Int.reduceBEq, Int.reduceBNe, Int.reduceToNat, Int.reduceNeg, Int.reduceSub, Int.reduceAdd, cellH]
  refine loopK (fun q s => ∃ (t : Nat), s = ⟨[(0, .rw g 4 0 L.length), (3, .ptr n 0), (4, .rw (n + 1) 4 0 0), (5, .lit (.int .i64 (t : Int)))], upd (upd H n (some (.cells (cellH c)))) (n + 1) (some (.row false 48 [])), n + 1 + 1⟩ ∧ t ≤ awN c L ∧ q = L.length - t) _ [0, 3, 4, 5] ⟨0, rfl, Nat.zero_le _, rfl⟩ ?_
  rintro q _ ⟨t, rfl, ht, rfl⟩
  have htl := aw_le c L
  by_cases htL : t < L.length
  · have htL' : (t : Int) < (L.length : Int) := by omega
    obtain ⟨x, hx⟩ : ∃ x, L[t]? = some x := ⟨_, List.getElem?_eq_getElem htL⟩
    have hw := wrap_nat0 (k := t) (by omega)
    have hnx := aw_next ht hx
    simp only [push_cast, Nat.reduceBEq, Nat.reduceAdd, Nat.reduceEqDiff, reduceCtorEq, Nat.reduceLeDiff, Nat.reduceSub, Nat.reduceMul, Nat.reduceLT, Int.reduceEq, Int.reduceLT, Int.reduceLE, Int.reduceBEq, Int.reduceBNe, Int.reduceToNat, Int.reduceNeg, Int.reduceSub, Int.reduceAdd, htL, htL', hx, hg, b1, b2, b3, b4, b5, b6, b7, Hv.nbq0_1, Hv.nbq0_2, Hv.nbq0_3, Hv.nbq0_4, Hv.nbq0_5, Hv.nbq0_6, Hv.nbq1_0, Hv.nbq1_2, Hv.nbq1_3, Hv.nbq1_4, Hv.nbq1_5, Hv.nbq1_6, Hv.nbq2_0, Hv.nbq2_1, Hv.nbq2_3, Hv.nbq2_4, Hv.nbq2_5, Hv.nbq2_6, Hv.nbq3_0, Hv.nbq3_1, Hv.nbq3_2, Hv.nbq3_4, Hv.nbq3_5, Hv.nbq3_6, Hv.nbq4_0, Hv.nbq4_1, Hv.nbq4_2, Hv.nbq4_3, Hv.nbq4_5, Hv.nbq4_6, Hv.nbq5_0, Hv.nbq5_1, Hv.nbq5_2, Hv.nbq5_3, Hv.nbq5_4, Hv.nbq5_6, Hv.nbq6_0, Hv.nbq6_1, Hv.nbq6_2, Hv.nbq6_3, Hv.nbq6_4, Hv.nbq6_5, cells_ble, cells_take, cellH]
    refine callD (lessR_h x c) ?_
    cases hB : lessV x c with
    | true =>
      have htt := hnx.1 hB
      simp only [push_cast, Nat.reduceBEq, Nat.reduceAdd, Nat.reduceEqDiff, reduceCtorEq, Nat.reduceLeDiff, Nat.reduceSub, Nat.reduceMul, Nat.reduceLT, Int.reduceEq, Int.reduceLT, Int.reduceLE, Int.reduceBEq, Int.reduceBNe, Int.reduceToNat, Int.reduceNeg, Int.reduceSub, Int.reduceAdd, hw]
      exact ⟨_, by omega, t + 1, rfl, htt, rfl⟩
    | false =>
      have hno : ¬ t < awN c L := fun h => by rw [hnx.2 h] at hB; cases hB
      have htw : t = awN c L := by omega
      obtain ⟨w1, w2⟩ := aw_take c L
      rw [← htw] at w1 w2
      have hin : placeL L c = L.take t ++ c :: L.drop t := by unfold placeL; rw [w1, w2]
      have c1 : (0 : Int) ≤ (t : Int) := by omega
      have c2 : (t : Int) ≤ (L.length : Int) := by omega
      have c3 : (t : Int).toNat = t := by omega
      have c4 : ((t : Int) - 0).toNat = t := by omega
      have c5 : ((L.length : Int) - (t : Int)).toNat = L.length - t := by omega
      have htk : List.take t (List.map cellH L) = List.map cellH (L.take t) := List.map_take.symm
      have hdk : List.take (L.length - t) (List.drop t (List.map cellH L)) = List.map cellH (L.drop t) := by rw [← List.map_drop]; exact List.take_of_length_le (by rw [List.length_map, List.length_drop]; exact Nat.le_refl _)
      have hhl : 0 < t → headLen (List.map cellH L) = 4 := fun h0 => by
        cases L with
        | nil => simp only [List.length_nil] at c2; omega
        | cons a L => rfl
      have hb1 : Nat.ble t L.length = true := by rw [Nat.ble_eq]; omega
      have hb2 : Nat.ble (t + (L.length - t)) L.length = true := by rw [Nat.ble_eq]; omega
      rcases Nat.eq_zero_or_pos t with ht0 | ht0
      · subst ht0
        have d1 : ((L.length : Int) - 0).toNat = L.length := by omega
        have d2 : (0 : Int) ≤ (L.length : Int) := by omega
        have d3 : (L.length : Int) ≤ (L.length : Int) := Int.le_refl _
        have d4 : (0 : Int) < (L.length : Int) := by omega
        have q0 : (L.length + 1) * 48 ≤ 140737488355328 := by omega
        have z0b : Nat.ble 0 L.length = true := by rw [Nat.ble_eq]; exact Nat.zero_le _
        have q00 : (1 + L.length) * 48 ≤ 140737488355328 := by omega
        have hal : (∀ it, it ∈ List.map cellH L → it.length = 4) = True := eq_true fun it hit => by obtain ⟨y, _, rfl⟩ := List.mem_map.1 hit; rfl
        simp (maxSteps := 200000) only [push_cast, Nat.reduceBEq, Nat.reduceAdd, Nat.reduceEqDiff, reduceCtorEq, Nat.reduceLeDiff, Nat.reduceSub, Nat.reduceMul, Nat.reduceLT, Int.reduceEq, Int.reduceLT, Int.reduceLE, Int.reduceBEq, Int.reduceBNe, Int.reduceToNat, Int.reduceNeg, Int.reduceSub, Int.reduceAdd, htL, htL', hx, d4, hg, cellH, b1, b2, b3, b4, b5, b6, b7, Hv.nbq0_1, Hv.nbq0_2, Hv.nbq0_3, Hv.nbq0_4, Hv.nbq0_5, Hv.nbq0_6, Hv.nbq1_0, Hv.nbq1_2, Hv.nbq1_3, Hv.nbq1_4, Hv.nbq1_5, Hv.nbq1_6, Hv.nbq2_0, Hv.nbq2_1, Hv.nbq2_3, Hv.nbq2_4, Hv.nbq2_5, Hv.nbq2_6, Hv.nbq3_0, Hv.nbq3_1, Hv.nbq3_2, Hv.nbq3_4, Hv.nbq3_5, Hv.nbq3_6, Hv.nbq4_0, Hv.nbq4_1, Hv.nbq4_2, Hv.nbq4_3, Hv.nbq4_5, Hv.nbq4_6, Hv.nbq5_0, Hv.nbq5_1, Hv.nbq5_2, Hv.nbq5_3, Hv.nbq5_4, Hv.nbq5_6, Hv.nbq6_0, Hv.nbq6_1, Hv.nbq6_2, Hv.nbq6_3, Hv.nbq6_4, Hv.nbq6_5, List.not_mem_nil, false_implies, c5, d1, d2, d3, q0, q00, hal, z0b, implies_true, cells_ble, cells_take, List.take_zero, List.drop_zero, List.length_map, List.length_append, List.length_cons, List.length_nil, List.nil_append, List.map_nil]
        rw [Nat.add_comm 1 L.length]
        have hin0 : placeL L c = c :: L := by rw [hin, List.take_zero, List.drop_zero]; rfl
        rw [hin0]
        exact ⟨_, rfl, by omega, by omega, upd_same _ _ _, fun j hj => by repeat rw [upd_other (by omega)]⟩
      replace hhl := hhl ht0
      unfold headLen at hhl
      have hal : (∀ it, it ∈ List.map cellH (L.drop t) → it.length = 4) = True := eq_true fun it hit => by obtain ⟨y, _, rfl⟩ := List.mem_map.1 hit; rfl
      have hb0 : (t == 0) = false := nb (by omega)
      have hb0' : Nat.beq t 0 = false := by
        cases t with
        | zero => omega
        | succ t => rfl
      have htl' : (L.take t).length = t := by rw [List.length_take]; omega
      have hdl' : (L.drop t).length = L.length - t := List.length_drop ..
      have q1 : (L.take t).length * 48 ≤ 140737488355328 := by omega
      have q2 : ((L.take t).length + 1) * 48 ≤ 140737488355328 := by omega
      have q3 : ((L.take t).length + 1 + (L.drop t).length) * 48 ≤ 140737488355328 := by omega
      have q4 : ((L.take t).length + 1 + (L.length - t)) * 48 ≤ 140737488355328 := by omega
      simp (maxSteps := 200000) only [push_cast, Nat.reduceBEq, Nat.reduceAdd, Nat.reduceEqDiff, reduceCtorEq, Nat.reduceLeDiff, Nat.reduceSub, Nat.reduceMul, Nat.reduceLT, Int.reduceEq, Int.reduceLT, Int.reduceLE, Int.reduceBEq, Int.reduceBNe, Int.reduceToNat, Int.reduceNeg, Int.reduceSub, Int.reduceAdd, htL, htL', hx, hg, cellH, b1, b2, b3, b4, b5, b6, b7, Hv.nbq0_1, Hv.nbq0_2, Hv.nbq0_3, Hv.nbq0_4, Hv.nbq0_5, Hv.nbq0_6, Hv.nbq1_0, Hv.nbq1_2, Hv.nbq1_3, Hv.nbq1_4, Hv.nbq1_5, Hv.nbq1_6, Hv.nbq2_0, Hv.nbq2_1, Hv.nbq2_3, Hv.nbq2_4, Hv.nbq2_5, Hv.nbq2_6, Hv.nbq3_0, Hv.nbq3_1, Hv.nbq3_2, Hv.nbq3_4, Hv.nbq3_5, Hv.nbq3_6, Hv.nbq4_0, Hv.nbq4_1, Hv.nbq4_2, Hv.nbq4_3, Hv.nbq4_5, Hv.nbq4_6, Hv.nbq5_0, Hv.nbq5_1, Hv.nbq5_2, Hv.nbq5_3, Hv.nbq5_4, Hv.nbq5_6, Hv.nbq6_0, Hv.nbq6_1, Hv.nbq6_2, Hv.nbq6_3, Hv.nbq6_4, Hv.nbq6_5, List.not_mem_nil, false_implies, c1, c2, c3, c4, c5, htk, hdk, hhl, hb1, hb2, hb0, hb0', List.length_map, List.length_append, List.length_cons, List.length_nil, q1, q2, q3, q4, hal]
      obtain ⟨L2, hL2⟩ : ∃ L2, L.take t ++ c :: L.drop t = L2 := ⟨_, rfl⟩
      have hl2 : (L.take t).length + 1 + (L.drop t).length = L2.length := by rw [← hL2, List.length_append, List.length_cons]; omega
      have hit2 : List.map cellH (L.take t) ++ [[.lit (.string c.key), .lit (.int .i64 c.seq), .lit (.int .i64 c.kind), .lit (.string c.val)]] ++ List.map cellH (L.drop t) = List.map cellH L2 := by rw [← hL2, List.map_append, List.map_cons, List.append_assoc]; rfl
      rw [hl2, hit2, hin, hL2]
      exact ⟨_, rfl, by omega, by omega, upd_same _ _ _, fun j hj => by repeat rw [upd_other (by omega)]⟩
  · have htw : t = awN c L := by omega
    obtain ⟨w1, w2⟩ := aw_take c L
    rw [← htw] at w1 w2
    have hin : placeL L c = L.take t ++ c :: L.drop t := by unfold placeL; rw [w1, w2]
    have c1 : (0 : Int) ≤ (t : Int) := by omega
    have c2 : (t : Int) ≤ (L.length : Int) := by omega
    have c3 : (t : Int).toNat = t := by omega
    have c4 : ((t : Int) - 0).toNat = t := by omega
    have c5 : ((L.length : Int) - (t : Int)).toNat = L.length - t := by omega
    have htk : List.take t (List.map cellH L) = List.map cellH (L.take t) := List.map_take.symm
    have hdk : List.take (L.length - t) (List.drop t (List.map cellH L)) = List.map cellH (L.drop t) := by rw [← List.map_drop]; exact List.take_of_length_le (by rw [List.length_map, List.length_drop]; exact Nat.le_refl _)
    have hhl : 0 < t → headLen (List.map cellH L) = 4 := fun h0 => by
      cases L with
      | nil => simp only [List.length_nil] at c2; omega
      | cons a L => rfl
    have hb1 : Nat.ble t L.length = true := by rw [Nat.ble_eq]; omega
    have hb2 : Nat.ble (t + (L.length - t)) L.length = true := by rw [Nat.ble_eq]; omega
    rcases Nat.eq_zero_or_pos t with ht0 | ht0
    · subst ht0
      have d1 : ((L.length : Int) - 0).toNat = L.length := by omega
      have d2 : (0 : Int) ≤ (L.length : Int) := by omega
      have d3 : (L.length : Int) ≤ (L.length : Int) := Int.le_refl _
      have d4 : ¬ (0 : Int) < (L.length : Int) := by omega
      have q0 : (L.length + 1) * 48 ≤ 140737488355328 := by omega
      have z0b : Nat.ble 0 L.length = true := by rw [Nat.ble_eq]; exact Nat.zero_le _
      have q00 : (1 + L.length) * 48 ≤ 140737488355328 := by omega
      have hal : (∀ it, it ∈ List.map cellH L → it.length = 4) = True := eq_true fun it hit => by obtain ⟨y, _, rfl⟩ := List.mem_map.1 hit; rfl
      simp (maxSteps := 200000) only [push_cast, Nat.reduceBEq, Nat.reduceAdd, Nat.reduceEqDiff, reduceCtorEq, Nat.reduceLeDiff, Nat.reduceSub, Nat.reduceMul, Nat.reduceLT, Int.reduceEq, Int.reduceLT, Int.reduceLE, Int.reduceBEq, Int.reduceBNe, Int.reduceToNat, Int.reduceNeg, Int.reduceSub, Int.reduceAdd, htL, d4, hg, cellH, b1, b2, b3, b4, b5, b6, b7, Hv.nbq0_1, Hv.nbq0_2, Hv.nbq0_3, Hv.nbq0_4, Hv.nbq0_5, Hv.nbq0_6, Hv.nbq1_0, Hv.nbq1_2, Hv.nbq1_3, Hv.nbq1_4, Hv.nbq1_5, Hv.nbq1_6, Hv.nbq2_0, Hv.nbq2_1, Hv.nbq2_3, Hv.nbq2_4, Hv.nbq2_5, Hv.nbq2_6, Hv.nbq3_0, Hv.nbq3_1, Hv.nbq3_2, Hv.nbq3_4, Hv.nbq3_5, Hv.nbq3_6, Hv.nbq4_0, Hv.nbq4_1, Hv.nbq4_2, Hv.nbq4_3, Hv.nbq4_5, Hv.nbq4_6, Hv.nbq5_0, Hv.nbq5_1, Hv.nbq5_2, Hv.nbq5_3, Hv.nbq5_4, Hv.nbq5_6, Hv.nbq6_0, Hv.nbq6_1, Hv.nbq6_2, Hv.nbq6_3, Hv.nbq6_4, Hv.nbq6_5, List.not_mem_nil, false_implies, c5, d1, d2, d3, q0, q00, hal, z0b, implies_true, cells_ble, cells_take, List.take_zero, List.drop_zero, List.length_map, List.length_append, List.length_cons, List.length_nil, List.nil_append, List.map_nil]
      rw [Nat.add_comm 1 L.length]
      have hin0 : placeL L c = c :: L := by rw [hin, List.take_zero, List.drop_zero]; rfl
      rw [hin0]
      exact ⟨_, rfl, by omega, by omega, upd_same _ _ _, fun j hj => by repeat rw [upd_other (by omega)]⟩
    replace hhl := hhl ht0
    unfold headLen at hhl
    have hal : (∀ it, it ∈ List.map cellH (L.drop t) → it.length = 4) = True := eq_true fun it hit => by obtain ⟨y, _, rfl⟩ := List.mem_map.1 hit; rfl
    have hb0 : (t == 0) = false := nb (by omega)
    have hb0' : Nat.beq t 0 = false := by
      cases t with
      | zero => omega
      | succ t => rfl
    have htl' : (L.take t).length = t := by rw [List.length_take]; omega
    have hdl' : (L.drop t).length = L.length - t := List.length_drop ..
    have q1 : (L.take t).length * 48 ≤ 140737488355328 := by omega
    have q2 : ((L.take t).length + 1) * 48 ≤ 140737488355328 := by omega
    have q3 : ((L.take t).length + 1 + (L.drop t).length) * 48 ≤ 140737488355328 := by omega
    have q4 : ((L.take t).length + 1 + (L.length - t)) * 48 ≤ 140737488355328 := by omega
    simp (maxSteps := 200000) only [push_cast, Nat.reduceBEq, Nat.reduceAdd, Nat.reduceEqDiff, reduceCtorEq, Nat.reduceLeDiff, Nat.reduceSub, Nat.reduceMul, Nat.reduceLT, Int.reduceEq, Int.reduceLT, Int.reduceLE, Int.reduceBEq, Int.reduceBNe, Int.reduceToNat, Int.reduceNeg, Int.reduceSub, Int.reduceAdd, htL, hg, cellH, b1, b2, b3, b4, b5, b6, b7, Hv.nbq0_1, Hv.nbq0_2, Hv.nbq0_3, Hv.nbq0_4, Hv.nbq0_5, Hv.nbq0_6, Hv.nbq1_0, Hv.nbq1_2, Hv.nbq1_3, Hv.nbq1_4, Hv.nbq1_5, Hv.nbq1_6, Hv.nbq2_0, Hv.nbq2_1, Hv.nbq2_3, Hv.nbq2_4, Hv.nbq2_5, Hv.nbq2_6, Hv.nbq3_0, Hv.nbq3_1, Hv.nbq3_2, Hv.nbq3_4, Hv.nbq3_5, Hv.nbq3_6, Hv.nbq4_0, Hv.nbq4_1, Hv.nbq4_2, Hv.nbq4_3, Hv.nbq4_5, Hv.nbq4_6, Hv.nbq5_0, Hv.nbq5_1, Hv.nbq5_2, Hv.nbq5_3, Hv.nbq5_4, Hv.nbq5_6, Hv.nbq6_0, Hv.nbq6_1, Hv.nbq6_2, Hv.nbq6_3, Hv.nbq6_4, Hv.nbq6_5, List.not_mem_nil, false_implies, c1, c2, c3, c4, c5, htk, hdk, hhl, hb1, hb2, hb0, hb0', List.length_map, List.length_append, List.length_cons, List.length_nil, q1, q2, q3, q4, hal]
    obtain ⟨L2, hL2⟩ : ∃ L2, L.take t ++ c :: L.drop t = L2 := ⟨_, rfl⟩
    have hl2 : (L.take t).length + 1 + (L.drop t).length = L2.length := by rw [← hL2, List.length_append, List.length_cons]; omega
    have hit2 : List.map cellH (L.take t) ++ [[.lit (.string c.key), .lit (.int .i64 c.seq), .lit (.int .i64 c.kind), .lit (.string c.val)]] ++ List.map cellH (L.drop t) = List.map cellH L2 := by rw [← hL2, List.map_append, List.map_cons, List.append_assoc]; rfl
    rw [hl2, hit2, hin, hL2]
    exact ⟨_, rfl, by omega, by omega, upd_same _ _ _, fun j hj => by repeat rw [upd_other (by omega)]⟩
theorem DocCells_h {H : Hp} {n : Nat} (seq : Int) (ops : List OpD) : HCalls Try.prog 17 [.lit (.int .i64 seq), .sl (ops.map opI)] H n fun r H' n' => ∃ v, r = .tup [v, .lit (.int .i64 (checkB seq ops))] ∧ NewCells false H n (if checkB seq ops = 0 then docCells seq ops else []) v H' n' := by
  refine hcallsC_of (rs := [.tmp 4, .tmp 5]) ⟨[0, 1, 4, 5, 6, 7, 8, 13, 18], [], [], [(8, [(0, [], []), (1, [], []), (2, [], []), (3, [], []), (4, [], []), (5, [], []), (6, [], []), (7, [], []), (8, [], []), (9, [], []), (10, [], []), (11, [], []), (12, [], []), (13, [], []), (14, [], []), (15, [], []), (16, [], []), (17, [], []), (18, [], []), (19, [], []), (20, [], []), (21, [], [0, 20, 14, 19, 5, 8, 13, 18, 4, 6, 7, 12, 17, 3, 11, 15, 16, 1, 2, 9, 10]), (22, [], [21, 0, 1, 2, 3, 4, 5, 6, 7, 8, 9, 10, 11, 12, 13, 14, 15, 16, 17, 18, 19, 20])])], [], []⟩ TOk mixed Try.func17 rfl rfl (by kernel_rfl) (by kernel_rfl) rfl ?_
  simp only [push_cast, Nat.reduceBEq, Nat.reduceAdd, Nat.reduceEqDiff, reduceCtorEq, Nat.reduceLeDiff, Nat.reduceSub, Nat.reduceMul, Nat.reduceLT, Int.reduceEq, Int.reduceLT, Int.reduceLE, Int.reduceBEq, Int.reduceBNe, Int.reduceToNat, Int.reduceNeg, Int.reduceSub, Int.reduceAdd]
  refine callK (DocCheck_h seq ops) ?_
  by_cases hc : checkB seq ops = 0
  · have hc' : (checkB seq ops != 0) = false := by rw [hc]; rfl
    obtain ⟨⟨hs1, hs2, hs3⟩, _, hlen, _⟩ := checkB_zero hc
    simp only [push_cast, Nat.reduceBEq, Nat.reduceAdd, Nat.reduceEqDiff, reduceCtorEq, Nat.reduceLeDiff, Nat.reduceSub, Nat.reduceMul, Nat.reduceLT, Int.reduceEq, Int.reduceLT, Int.reduceLE, Int.reduceBEq, Int.reduceBNe, Int.reduceToNat, Int.reduceNeg, Int.reduceSub, Int.reduceAdd, hc']
    refine loopK (fun q s => ∃ (k g : Nat) (L : List CellD) (Hc : Hp) (nn : Nat), s = ⟨[(0, .lit (.int .i64 seq)), (1, .sl (ops.map opI)), (7, .rw g 4 0 L.length), (8, .lit (.int .i64 (k : Int)))], Hc, nn⟩ ∧ k ≤ ops.length ∧ q = ops.length - k ∧ L = ((cellsB seq ops).take k).foldl placeL [] ∧ Hc g = some (.row false 48 (L.map cellH)) ∧ n ≤ g ∧ g < nn ∧ ∀ j, j < n → Hc j = H j) _ [0, 1, 7, 8] ⟨0, n + 1, [], _, _, rfl, Nat.zero_le _, rfl, rfl, upd_same _ _ _, by omega, Nat.lt_succ_self _, fun j hj => (upd_other (by omega)).trans (upd_other (by omega))⟩ ?_
    rintro q _ ⟨k, g, L, Hc, nn, rfl, hk, rfl, hL, hg, hg1, hg2, hh⟩
    by_cases hkl : k < ops.length
    · have hkl' : (k : Int) < (ops.length : Int) := by omega
      obtain ⟨o, ho⟩ : ∃ o, ops[k]? = some o := ⟨_, List.getElem?_eq_getElem hkl⟩
      have hw := wrap_nat0 (k := k) (by omega)
      have hsw : IntKind.i64.wrap (seq + (k : Int)) = seq + k := IntWalk.i64_in _ (by omega)
      have hLl : L.length ≤ ops.length := by
        have h1 := (foldl_place ((cellsB seq ops).take k) [] rfl (fun x hx => absurd hx List.not_mem_nil) ((cellsB_seqs seq ops).sublist (List.take_sublist _ _))).2.length_eq
        rw [← hL, List.append_nil, List.length_take, cellsB_len] at h1
        omega
      simp only [push_cast, Nat.reduceBEq, Nat.reduceAdd, Nat.reduceEqDiff, reduceCtorEq, Nat.reduceLeDiff, Nat.reduceSub, Nat.reduceMul, Nat.reduceLT, Int.reduceEq, Int.reduceLT, Int.reduceLE, Int.reduceBEq, Int.reduceBNe, Int.reduceToNat, Int.reduceNeg, Int.reduceSub, Int.reduceAdd, hkl, hkl', ho, hw, hsw, opI]
      refine callHD (Place_h L (cellO seq k o) hg hg2 (by omega)) ?_
      rintro r H2 n2 ⟨g2, rfl, h1, h2, h3, h4⟩
      dsimp only at h1 h2 h3 h4
      simp only [push_cast, Nat.reduceBEq, Nat.reduceAdd, Nat.reduceEqDiff, reduceCtorEq, Nat.reduceLeDiff, Nat.reduceSub, Nat.reduceMul, Nat.reduceLT, Int.reduceEq, Int.reduceLT, Int.reduceLE, Int.reduceBEq, Int.reduceBNe, Int.reduceToNat, Int.reduceNeg, Int.reduceSub, Int.reduceAdd, hw]
      exact ⟨_, by omega, k + 1, g2, _, _, _, rfl, by omega, rfl, by rw [docCells_take ho, ← hL], h3, by omega, h2, fun j hj => (h4 j (by omega)).trans (hh j hj)⟩
    · simp only [push_cast, Nat.reduceBEq, Nat.reduceAdd, Nat.reduceEqDiff, reduceCtorEq, Nat.reduceLeDiff, Nat.reduceSub, Nat.reduceMul, Nat.reduceLT, Int.reduceEq, Int.reduceLT, Int.reduceLE, Int.reduceBEq, Int.reduceBNe, Int.reduceToNat, Int.reduceNeg, Int.reduceSub, Int.reduceAdd, hkl]
      obtain rfl : k = ops.length := by omega
      rw [hc]
      refine ⟨_, rfl, ?_⟩
      have hLd : L = docCells seq ops := by rw [hL, ← cellsB_len seq ops, List.take_length]; rfl
      rw [if_pos rfl, ← hLd]
      exact ⟨g, rfl, hg1, hg2, hg, hh⟩
  · have hc' : (checkB seq ops != 0) = true := by simpa using hc
    simp only [push_cast, Nat.reduceBEq, Nat.reduceAdd, Nat.reduceEqDiff, reduceCtorEq, Nat.reduceLeDiff, Nat.reduceSub, Nat.reduceMul, Nat.reduceLT, Int.reduceEq, Int.reduceLT, Int.reduceLE, Int.reduceBEq, Int.reduceBNe, Int.reduceToNat, Int.reduceNeg, Int.reduceSub, Int.reduceAdd, hc']
    refine ⟨_, rfl, ?_⟩
    rw [if_neg hc]
    exact ⟨_, rfl, by omega, by omega, upd_same _ _ _, fun j hj => by repeat rw [upd_other (by omega)]⟩
end Go.Proofs.Ytmgpfckkafcllaa
