/- Chapter 17's statements: edits as the program's and as the document's, by the walk over a heap. -/
import Derived.Test.YtheanmfdfoefoaaEdFns
set_option linter.unusedVariables false
namespace Go.Proofs.Ytheanmfdfoefoaa
open Go Go.RowKit Hv
set_option linter.unusedSimpArgs false
set_option maxRecDepth 20000
set_option maxHeartbeats 8000000

theorem to_h (e : EdD) (hg : e.gone.length ≤ 1000000) (hn : e.new.length ≤ 1000000) : Hv.ACalls Try.prog 35 [edH e] (edH e) := by
  refine acallsC_of (rs := [.cell 2 67]) ⟨[0, 1, 2, 3, 4, 5, 27, 52], [], [], [(1, [(0, [], []), (1, [], []), (2, [], []), (3, [], []), (4, [], []), (5, [], []), (6, [], []), (7, [], []), (8, [], []), (9, [10], []), (11, [], []), (12, [], []), (13, [], []), (14, [15], []), (10, [1, 3, 5, 12, 13], [9, 8, 7, 6]), (15, [1, 3, 5, 7, 8], [14, 13, 12, 11]), (16, [], []), (17, [1, 3, 5, 7, 8, 12, 13], []), (18, [], [17, 16, 0, 1, 2, 3, 4, 5, 6, 7, 8, 9, 10, 11, 12, 13, 14, 15])]), (5, [(0, [], []), (1, [], []), (2, [], []), (3, [], []), (4, [], []), (5, [], []), (6, [], []), (7, [], []), (8, [], []), (9, [], []), (10, [], []), (11, [], []), (12, [], []), (13, [], []), (14, [], []), (15, [], []), (16, [], [1, 15, 0, 14, 7, 13, 6, 12, 5, 11, 3, 4, 9, 10, 2, 8]), (17, [], []), (18, [], [17, 16, 0, 1, 2, 3, 4, 5, 6, 7, 8, 9, 10, 11, 12, 13, 14, 15])]), (9, [(0, [], []), (1, [], []), (2, [], []), (3, [], []), (4, [], []), (5, [], []), (6, [], []), (7, [], []), (8, [], []), (9, [], []), (10, [], []), (11, [], []), (12, [], []), (13, [], []), (14, [], []), (15, [], []), (16, [], []), (17, [], []), (18, [], []), (19, [], []), (20, [], []), (21, [], []), (22, [], []), (23, [], []), (24, [], []), (25, [], []), (26, [], []), (27, [], []), (28, [], []), (29, [], []), (30, [], []), (31, [], []), (32, [], []), (33, [], []), (34, [], []), (35, [], []), (36, [], []), (37, [], []), (38, [], []), (39, [], [1, 38, 0, 37, 7, 36, 6, 14, 21, 28, 35, 5, 13, 20, 27, 34, 3, 4, 12, 19, 26, 33, 2, 11, 18, 25, 32, 9, 10, 16, 17, 23, 24, 30, 31, 8, 15, 22, 29]), (40, [], []), (41, [], [40, 39, 0, 1, 2, 3, 4, 5, 6, 7, 8, 9, 10, 11, 12, 13, 14, 15, 16, 17, 18, 19, 20, 21, 22, 23, 24, 25, 26, 27, 28, 29, 30, 31, 32, 33, 34, 35, 36, 37, 38])])], [], []⟩ TOk mixed Try.func35 rfl rfl (by kernel_rfl) (by kernel_rfl) rfl (nid1 (noId_ed e)) (noId_ed e) ?_
  obtain ⟨G, hwg, hg0, hgb⟩ : ∃ G : Int, IntKind.i64.wrap ((e.gone.length : Int) + 2) = G ∧ 0 ≤ G ∧ 16 * G ≤ 140737488355328 := ⟨(e.gone.length : Int) + 2, IntWalk.i64_in _ (by omega), by omega, by omega⟩
  obtain ⟨W, hwn, hn0, hnb⟩ : ∃ G : Int, IntKind.i64.wrap ((e.new.length : Int) + 2) = G ∧ 0 ≤ G ∧ 56 * G ≤ 140737488355328 := ⟨(e.new.length : Int) + 2, IntWalk.i64_in _ (by omega), by omega, by omega⟩
  simp only [push_cast, Nat.reduceBEq, Nat.reduceAdd, Nat.reduceEqDiff, reduceCtorEq, Nat.reduceLeDiff, Nat.reduceSub, Nat.reduceMul, Nat.reduceLT, Int.reduceEq, Int.reduceLT, Int.reduceLE, Int.reduceBEq, Int.reduceBNe, Int.reduceToNat, Int.reduceNeg, Int.reduceSub, Int.reduceAdd, edH, hwg, hwn, hg0, hgb, hn0, hnb, List.replicate_zero]
  refine loopK (fun n x => ∃ (k g nx : Nat) (H : Hp), x = ⟨[(1, .ptr 0 0), (2, .ptr 1 0), (3, .ptr 4 0), (4, .lit (.int .i64 (k : Int)))], H, nx⟩ ∧ n = e.gone.length - k ∧ k ≤ e.gone.length ∧ g < nx ∧ 5 ≤ nx ∧ g ≠ 0 ∧ g ≠ 1 ∧ g ≠ 3 ∧ g ≠ 4 ∧ H 0 = some (.cells [.lit (.int .i64 e.log), .lit (.int .i64 e.next), .lit (.int .i64 e.seq), .sl (e.gone.map plH), .sl (e.new.map addH)]) ∧
    H 1 = some (.cells [.lit (.int .i64 0), .lit (.int .i64 0), .lit (.int .i64 0), .lit (.slice none 0 0), .lit (.slice none 0 0)]) ∧
    H 4 = some (.cells [.lit (.int .i64 e.log), .lit (.int .i64 e.next), .lit (.int .i64 e.seq), .rw g 2 0 k, .rw 3 5 0 0]) ∧ H 3 = some (.row false 93 []) ∧
    H g = some (.row false 120 ((e.gone.take k).map plH))) _ [1, 2, 3, 4] (by refine ⟨0, 2, 5, _, rfl, rfl, by omega, by omega, by omega, by omega, by omega, by omega, by omega, ?_, ?_, ?_, ?_, ?_⟩ <;> rfl) ?_
  rintro n _ ⟨k, g, nx, H, rfl, rfl, hk, hgn, h5, g0, g1, g3, g4, h0, h1, h4, h3, hrow⟩
  by_cases h : k < e.gone.length
  · obtain ⟨x, hx⟩ : ∃ x, e.gone[k]? = some x := ⟨_, List.getElem?_eq_getElem h⟩
    have hw := wrap_nat (k := k) (by omega)
    have hlen : ((e.gone.take k).map plH).length = k := by rw [List.length_map, List.length_take]; omega
    have hb : (k + 1) * 16 ≤ 140737488355328 := by omega
    have hne : (nx == g) = false := by rw [← Bool.not_eq_true, beq_iff_eq]; omega
    have hn0' : (nx == 0) = false := by rw [← Bool.not_eq_true, beq_iff_eq]; omega
    have hn1' : (nx == 1) = false := by rw [← Bool.not_eq_true, beq_iff_eq]; omega
    have hn3' : (nx == 3) = false := by rw [← Bool.not_eq_true, beq_iff_eq]; omega
    have hn4' : (nx == 4) = false := by rw [← Bool.not_eq_true, beq_iff_eq]; omega
    have hg0' : (g == 0) = false := by rw [← Bool.not_eq_true, beq_iff_eq]; omega
    have hg1' : (g == 1) = false := by rw [← Bool.not_eq_true, beq_iff_eq]; omega
    have hg3' : (g == 3) = false := by rw [← Bool.not_eq_true, beq_iff_eq]; omega
    have hg4' : (g == 4) = false := by rw [← Bool.not_eq_true, beq_iff_eq]; omega
    simp only [push_cast, Nat.reduceBEq, Nat.reduceAdd, Nat.reduceEqDiff, reduceCtorEq, Nat.reduceLeDiff, Nat.reduceSub, Nat.reduceMul, Nat.reduceLT, Int.reduceEq, Int.reduceLT, Int.reduceLE, Int.reduceBEq, Int.reduceBNe, Int.reduceToNat, Int.reduceNeg, Int.reduceSub, Int.reduceAdd, h, hx, h0, h1, h3, h4, hrow, plH, hw, hb, hlen, hne, hn0', hn1', hn3', hn4', hg0', hg1', hg3', hg4']
    refine ⟨_, by omega, k + 1, nx, nx + 1, _, rfl, rfl, by omega, by omega, by omega, by omega, by omega, by omega, by omega, ?_, ?_, upd_same _ _ _, ?_, ?_⟩
    · rw [upd_other (by omega), upd_other (by omega), upd_other (by omega)]; exact h0
    · rw [upd_other (by omega), upd_other (by omega), upd_other (by omega)]; exact h1
    · rw [upd_other (by omega), upd_other (by omega), upd_other (by omega)]; exact h3
    · rw [upd_other (by omega), upd_same, List.take_add_one, hx, List.map_append]; rfl
  · obtain rfl : k = e.gone.length := by omega
    rw [List.take_length] at hrow
    simp only [push_cast, Nat.reduceBEq, Nat.reduceAdd, Nat.reduceEqDiff, reduceCtorEq, Nat.reduceLeDiff, Nat.reduceSub, Nat.reduceMul, Nat.reduceLT, Int.reduceEq, Int.reduceLT, Int.reduceLE, Int.reduceBEq, Int.reduceBNe, Int.reduceToNat, Int.reduceNeg, Int.reduceSub, Int.reduceAdd, h, h0, h1, h3, h4, hrow]
    refine loopK (fun n x => ∃ (k w nx : Nat) (H : Hp), x = ⟨[(1, .ptr 0 0), (2, .ptr 1 0), (3, .ptr 4 0), (5, .lit (.int .i64 (k : Int)))], H, nx⟩ ∧ n = e.new.length - k ∧ k ≤ e.new.length ∧ w < nx ∧ 5 ≤ nx ∧ g < nx ∧ w ≠ 0 ∧ w ≠ 1 ∧ w ≠ g ∧ w ≠ 4 ∧ H 0 = some (.cells [.lit (.int .i64 e.log), .lit (.int .i64 e.next), .lit (.int .i64 e.seq), .sl (e.gone.map plH), .sl (e.new.map addH)]) ∧
      H 1 = some (.cells [.lit (.int .i64 0), .lit (.int .i64 0), .lit (.int .i64 0), .lit (.slice none 0 0), .lit (.slice none 0 0)]) ∧
      H 4 = some (.cells [.lit (.int .i64 e.log), .lit (.int .i64 e.next), .lit (.int .i64 e.seq), .rw g 2 0 e.gone.length, .rw w 5 0 k]) ∧ H g = some (.row false 120 (e.gone.map plH)) ∧
      H w = some (.row false 93 ((e.new.take k).map addH))) _ [1, 2, 3, 5] (by exact ⟨0, 3, nx, H, rfl, rfl, by omega, by omega, by omega, by omega, by omega, by omega, by omega, by omega, h0, h1, h4, hrow, h3⟩) ?_
    clear h0 h1 h3 h4 hrow h5 hgn
    rintro n _ ⟨k, w, nx, H, rfl, rfl, hk, hwn, h5, hgn, w0, w1, wg, w4, h0, h1, h4, hrg, hrow⟩
    by_cases h : k < e.new.length
    · obtain ⟨x, hx⟩ : ∃ x, e.new[k]? = some x := ⟨_, List.getElem?_eq_getElem h⟩
      have hw := wrap_nat (k := k) (by omega)
      have hlen : ((e.new.take k).map addH).length = k := by rw [List.length_map, List.length_take]; omega
      have hb : (k + 1) * 56 ≤ 140737488355328 := by omega
      have hne : (nx == w) = false := by rw [← Bool.not_eq_true, beq_iff_eq]; omega
      have hng' : (nx == g) = false := by rw [← Bool.not_eq_true, beq_iff_eq]; omega
      have hn0' : (nx == 0) = false := by rw [← Bool.not_eq_true, beq_iff_eq]; omega
      have hn1' : (nx == 1) = false := by rw [← Bool.not_eq_true, beq_iff_eq]; omega
      have hn4' : (nx == 4) = false := by rw [← Bool.not_eq_true, beq_iff_eq]; omega
      have hg0' : (w == 0) = false := by rw [← Bool.not_eq_true, beq_iff_eq]; omega
      have hg1' : (w == 1) = false := by rw [← Bool.not_eq_true, beq_iff_eq]; omega
      have hg3' : (w == g) = false := by rw [← Bool.not_eq_true, beq_iff_eq]; omega
      have hg4' : (w == 4) = false := by rw [← Bool.not_eq_true, beq_iff_eq]; omega
      simp only [push_cast, Nat.reduceBEq, Nat.reduceAdd, Nat.reduceEqDiff, reduceCtorEq, Nat.reduceLeDiff, Nat.reduceSub, Nat.reduceMul, Nat.reduceLT, Int.reduceEq, Int.reduceLT, Int.reduceLE, Int.reduceBEq, Int.reduceBNe, Int.reduceToNat, Int.reduceNeg, Int.reduceSub, Int.reduceAdd, h, hx, h0, h1, h4, hrg, hrow, addH, hw, hb, hlen, hne, hng', hn0', hn1', hn4', hg0', hg1', hg3', hg4']
      have hlen' : (List.map (fun a : AddD => [AV.lit (.int .i64 a.level), AV.lit (.int .i64 a.t.file), AV.lit (.int .i64 a.t.size), AV.lit (.string a.t.first), AV.lit (.string a.t.last)]) (e.new.take k)).length = k := hlen
      refine ⟨_, by omega, k + 1, nx, nx + 1, _, rfl, rfl, by omega, by omega, by omega, by omega, by omega, by omega, by omega, by omega, ?_, ?_, upd_same _ _ _, ?_, ?_⟩
      · rw [upd_other (by omega), upd_other (by omega), upd_other (by omega)]; exact h0
      · rw [upd_other (by omega), upd_other (by omega), upd_other (by omega)]; exact h1
      · rw [upd_other (by omega), upd_other (by omega), upd_other (by omega)]; exact hrg
      · rw [upd_other (by omega), upd_same, List.take_add_one, hx, List.map_append]; rfl
    · obtain rfl : k = e.new.length := by omega
      rw [List.take_length] at hrow
      have e1 : (1 == g) = false := by rw [← Bool.not_eq_true, beq_iff_eq]; omega
      have e2 : (1 == w) = false := by rw [← Bool.not_eq_true, beq_iff_eq]; omega
      simp only [push_cast, Nat.reduceBEq, Nat.reduceAdd, Nat.reduceEqDiff, reduceCtorEq, Nat.reduceLeDiff, Nat.reduceSub, Nat.reduceMul, Nat.reduceLT, Int.reduceEq, Int.reduceLT, Int.reduceLE, Int.reduceBEq, Int.reduceBNe, Int.reduceToNat, Int.reduceNeg, Int.reduceSub, Int.reduceAdd, h, h0, h1, h4, hrg, hrow, e1, e2]
/-- A cell that holds nil or a row of its own. -/
def NilRow (H : Hp) (nx : Nat) (t : Nat) (sz : Nat) (c : AV) (items : List (List AV)) : Prop := (c = .lit (.slice none 0 0) ∧ items = []) ∨ ∃ id, c = .rw id sz 0 items.length ∧ 3 ≤ id ∧ id < nx ∧ H id = some (.row false t items)
theorem nilRow_keep {H H' : Hp} {nx nx' t sz : Nat} {c : AV} {items : List (List AV)} (h : NilRow H nx t sz c items) (hn : nx ≤ nx') (hh : ∀ j, 3 ≤ j → j < nx → H' j = H j) : NilRow H' nx' t sz c items := by
  rcases h with h | ⟨id, h1, h2, h3, h4⟩
  · exact .inl h
  · exact .inr ⟨id, h1, h2, by omega, by rw [hh id h2 h3]; exact h4⟩
theorem nilRow_view {H H' : Hp} {nx t sz : Nat} {c : AV} {items : List (List AV)} (h : NilRow H nx t sz c items) (hh : ∀ j, 3 ≤ j → H' j = H j) : AV.view1 (sealH H') c = .sl items := by
  rcases h with ⟨rfl, rfl⟩ | ⟨id, rfl, h2, h3, h4⟩
  · rfl
  · unfold AV.view1 sealH
    simp only [hh id h2, h4, sealO, fits, piece, Nat.beq_refl, cond_true, Nat.ble_self_eq_true]
    rw [List.take_of_length_le (by simp)]
theorem nilRow_one {H : Hp} {nx t sz : Nat} {c : AV} {items : List (List AV)} (h : NilRow H nx t sz c items) : AV.isOne c = true := by
  rcases h with ⟨rfl, rfl⟩ | ⟨id, rfl, h2, h3, h4⟩ <;> rfl
theorem from_h (e : EdD) (hg : e.gone.length ≤ 1000000) (hn : e.new.length ≤ 1000000) : Hv.ACalls Try.prog 40 [edH e] (edH e) := by
  refine acallsC_of (rs := [.cell 2 62]) ⟨[0, 1, 2, 3, 4, 5, 17, 42], [], [], [(5, [(0, [], []), (1, [], []), (2, [], []), (3, [], []), (4, [], []), (5, [], []), (6, [], []), (7, [], []), (8, [], []), (9, [], []), (10, [], []), (11, [], []), (12, [], []), (13, [], []), (14, [], []), (15, [], []), (16, [], [1, 15, 0, 14, 7, 13, 6, 12, 5, 11, 3, 4, 9, 10, 2, 8]), (17, [], []), (18, [], [17, 16, 0, 1, 2, 3, 4, 5, 6, 7, 8, 9, 10, 11, 12, 13, 14, 15])]), (9, [(0, [], []), (1, [], []), (2, [], []), (3, [], []), (4, [], []), (5, [], []), (6, [], []), (7, [], []), (8, [], []), (9, [], []), (10, [], []), (11, [], []), (12, [], []), (13, [], []), (14, [1, 3, 5, 7], [13, 12, 11, 9, 10, 8]), (15, [], []), (16, [], []), (17, [], [1, 16, 14, 0, 15, 13, 7, 12, 6, 11, 5, 9, 10, 3, 4, 8, 2]), (18, [], []), (19, [], [18, 17, 0, 1, 2, 3, 4, 5, 6, 7, 8, 9, 10, 11, 12, 13, 14, 15, 16])])], [], []⟩ TOk mixed Try.func40 rfl rfl (by kernel_rfl) (by kernel_rfl) rfl (nid1 (noId_ed e)) (noId_ed e) ?_
  simp only [push_cast, Nat.reduceBEq, Nat.reduceAdd, Nat.reduceEqDiff, reduceCtorEq, Nat.reduceLeDiff, Nat.reduceSub, Nat.reduceMul, Nat.reduceLT, Int.reduceEq, Int.reduceLT, Int.reduceLE, Int.reduceBEq, Int.reduceBNe, Int.reduceToNat, Int.reduceNeg, Int.reduceSub, Int.reduceAdd, edH]
  refine loopK (fun n x => ∃ (k : Nat) (c : AV) (nx : Nat) (H : Hp), x = ⟨[(1, .ptr 0 0), (2, .ptr 1 0), (3, .ptr 2 0), (4, .lit (.int .i64 (k : Int)))], H, nx⟩ ∧ n = e.gone.length - k ∧ k ≤ e.gone.length ∧ 3 ≤ nx ∧ H 0 = some (.cells [.lit (.int .i64 e.log), .lit (.int .i64 e.next), .lit (.int .i64 e.seq), .sl (e.gone.map plH), .sl (e.new.map addH)]) ∧
    H 1 = some (.cells [.lit (.int .i64 0), .lit (.int .i64 0), .lit (.int .i64 0), .lit (.slice none 0 0), .lit (.slice none 0 0)]) ∧
    H 2 = some (.cells [.lit (.int .i64 e.log), .lit (.int .i64 e.next), .lit (.int .i64 e.seq), c, .lit (.slice none 0 0)]) ∧ NilRow H nx 86 2 c ((e.gone.take k).map plH)) _ [1, 2, 3, 4] (by exact ⟨0, _, 3, _, rfl, rfl, by omega, by omega, rfl, rfl, rfl, .inl ⟨rfl, rfl⟩⟩) ?_
  rintro n _ ⟨k, c, nx, H, rfl, rfl, hk, h5, h0, h1, h2, hrow⟩
  by_cases h : k < e.gone.length
  · obtain ⟨x, hx⟩ : ∃ x, e.gone[k]? = some x := ⟨_, List.getElem?_eq_getElem h⟩
    have hw := wrap_nat (k := k) (by omega)
    have hlen : ((e.gone.take k).map plH).length = k := by rw [List.length_map, List.length_take]; omega
    have hb : (k + 1) * 16 ≤ 140737488355328 := by omega
    have hn0' : (nx == 0) = false := by rw [← Bool.not_eq_true, beq_iff_eq]; omega
    have hn1' : (nx == 1) = false := by rw [← Bool.not_eq_true, beq_iff_eq]; omega
    have hn2' : (nx == 2) = false := by rw [← Bool.not_eq_true, beq_iff_eq]; omega
    rcases hrow with ⟨rfl, hnil⟩ | ⟨g, rfl, g3, hgn, hrow⟩
    · obtain rfl : k = 0 := by rw [hnil] at hlen; simpa using hlen.symm
      have hpos : (0 : Int) < (e.gone.length : Int) := by omega
      have hw1 : IntKind.i64.wrap 1 = 1 := by decide
      simp only [push_cast, Nat.reduceBEq, Nat.reduceAdd, Nat.reduceEqDiff, reduceCtorEq, Nat.reduceLeDiff, Nat.reduceSub, Nat.reduceMul, Nat.reduceLT, Int.reduceEq, Int.reduceLT, Int.reduceLE, Int.reduceBEq, Int.reduceBNe, Int.reduceToNat, Int.reduceNeg, Int.reduceSub, Int.reduceAdd, hpos, hx, h0, h1, h2, plH, hw1, hn0', hn1', hn2']
      refine ⟨_, by omega, 1, _, nx + 1, _, rfl, rfl, by omega, by omega, ?_, ?_, upd_same _ _ _, .inr ⟨nx, ?_, by omega, by omega, ?_⟩⟩
      · rw [upd_other (by omega), upd_other (by omega)]; exact h0
      · rw [upd_other (by omega), upd_other (by omega)]; exact h1
      · rw [List.take_add_one, hx]; rfl
      · rw [upd_other (by omega), upd_same, List.take_add_one, hx]; rfl
    · have hne : (nx == g) = false := by rw [← Bool.not_eq_true, beq_iff_eq]; omega
      have hg0' : (g == 0) = false := by rw [← Bool.not_eq_true, beq_iff_eq]; omega
      have hg1' : (g == 1) = false := by rw [← Bool.not_eq_true, beq_iff_eq]; omega
      have hg2' : (g == 2) = false := by rw [← Bool.not_eq_true, beq_iff_eq]; omega
      rw [hlen] at h2
      simp only [push_cast, Nat.reduceBEq, Nat.reduceAdd, Nat.reduceEqDiff, reduceCtorEq, Nat.reduceLeDiff, Nat.reduceSub, Nat.reduceMul, Nat.reduceLT, Int.reduceEq, Int.reduceLT, Int.reduceLE, Int.reduceBEq, Int.reduceBNe, Int.reduceToNat, Int.reduceNeg, Int.reduceSub, Int.reduceAdd, h, hx, h0, h1, h2, hrow, plH, hw, hb, hlen, hne, hn0', hn1', hn2', hg0', hg1', hg2']
      refine ⟨_, by omega, k + 1, _, nx + 1, _, rfl, rfl, by omega, by omega, ?_, ?_, upd_same _ _ _, .inr ⟨nx, ?_, by omega, by omega, ?_⟩⟩
      · rw [upd_other (by omega), upd_other (by omega), upd_other (by omega)]; exact h0
      · rw [upd_other (by omega), upd_other (by omega), upd_other (by omega)]; exact h1
      · rw [List.length_map, List.length_take, Nat.min_eq_left (by omega)]
      · rw [upd_other (by omega), upd_same, List.take_add_one, hx, List.map_append]; rfl
  · obtain rfl : k = e.gone.length := by omega
    rw [List.take_length] at hrow
    have hc1 := nilRow_one hrow
    simp only [AV.isOne, Value.oneCell'] at hc1
    simp only [push_cast, Nat.reduceBEq, Nat.reduceAdd, Nat.reduceEqDiff, reduceCtorEq, Nat.reduceLeDiff, Nat.reduceSub, Nat.reduceMul, Nat.reduceLT, Int.reduceEq, Int.reduceLT, Int.reduceLE, Int.reduceBEq, Int.reduceBNe, Int.reduceToNat, Int.reduceNeg, Int.reduceSub, Int.reduceAdd, h, h0, h1, h2, hc1]
    refine loopK (fun n x => ∃ (k : Nat) (d : AV) (nx : Nat) (H : Hp), x = ⟨[(1, .ptr 0 0), (2, .ptr 1 0), (3, .ptr 2 0), (5, .lit (.int .i64 (k : Int)))], H, nx⟩ ∧ n = e.new.length - k ∧ k ≤ e.new.length ∧ 3 ≤ nx ∧ H 0 = some (.cells [.lit (.int .i64 e.log), .lit (.int .i64 e.next), .lit (.int .i64 e.seq), .sl (e.gone.map plH), .sl (e.new.map addH)]) ∧
      H 1 = some (.cells [.lit (.int .i64 0), .lit (.int .i64 0), .lit (.int .i64 0), .lit (.slice none 0 0), .lit (.slice none 0 0)]) ∧
      H 2 = some (.cells [.lit (.int .i64 e.log), .lit (.int .i64 e.next), .lit (.int .i64 e.seq), c, d]) ∧ NilRow H nx 86 2 c (e.gone.map plH) ∧ NilRow H nx 84 5 d ((e.new.take k).map addH)) _ [1, 2, 3, 5] (by exact ⟨0, _, nx, H, rfl, rfl, by omega, by omega, h0, h1, h2, hrow, .inl ⟨rfl, rfl⟩⟩) ?_
    clear h0 h1 h2 hrow h5
    rintro n _ ⟨k, d, nx, H, rfl, rfl, hk, h5, h0, h1, h2, hrc, hrow⟩
    by_cases h : k < e.new.length
    · obtain ⟨x, hx⟩ : ∃ x, e.new[k]? = some x := ⟨_, List.getElem?_eq_getElem h⟩
      have hw := wrap_nat (k := k) (by omega)
      have hlen : ((e.new.take k).map addH).length = k := by rw [List.length_map, List.length_take]; omega
      have hb : (k + 1) * 56 ≤ 140737488355328 := by omega
      have hn0' : (nx == 0) = false := by rw [← Bool.not_eq_true, beq_iff_eq]; omega
      have hn1' : (nx == 1) = false := by rw [← Bool.not_eq_true, beq_iff_eq]; omega
      have hn2' : (nx == 2) = false := by rw [← Bool.not_eq_true, beq_iff_eq]; omega
      have hm := meta_h x.t
      unfold metaH at hm
      rcases hrow with ⟨rfl, hnil⟩ | ⟨g, rfl, g3, hgn, hrow⟩
      · obtain rfl : k = 0 := by rw [hnil] at hlen; simpa using hlen.symm
        have hpos : (0 : Int) < (e.new.length : Int) := by omega
        have hw1 : IntKind.i64.wrap 1 = 1 := by decide
        simp only [push_cast, Nat.reduceBEq, Nat.reduceAdd, Nat.reduceEqDiff, reduceCtorEq, Nat.reduceLeDiff, Nat.reduceSub, Nat.reduceMul, Nat.reduceLT, Int.reduceEq, Int.reduceLT, Int.reduceLE, Int.reduceBEq, Int.reduceBNe, Int.reduceToNat, Int.reduceNeg, Int.reduceSub, Int.reduceAdd, hpos, hx, h0, h1, h2, addH, hw1, hn0', hn1', hn2']
        refine callD hm ?_
        simp only [push_cast, Nat.reduceBEq, Nat.reduceAdd, Nat.reduceEqDiff, reduceCtorEq, Nat.reduceLeDiff, Nat.reduceSub, Nat.reduceMul, Nat.reduceLT, Int.reduceEq, Int.reduceLT, Int.reduceLE, Int.reduceBEq, Int.reduceBNe, Int.reduceToNat, Int.reduceNeg, Int.reduceSub, Int.reduceAdd, hpos, hx, h0, h1, h2, addH, hw1, hn0', hn1', hn2']
        refine ⟨_, by omega, 1, _, nx + 1, _, rfl, rfl, by omega, by omega, ?_, ?_, upd_same _ _ _, ?_, .inr ⟨nx, ?_, by omega, by omega, ?_⟩⟩
        · rw [upd_other (by omega), upd_other (by omega)]; exact h0
        · rw [upd_other (by omega), upd_other (by omega)]; exact h1
        · exact nilRow_keep hrc (by omega) fun j h1 h2 => by rw [upd_other (by omega), upd_other (by omega)]
        · rw [List.take_add_one, hx]; rfl
        · rw [upd_other (by omega), upd_same, List.take_add_one, hx]; rfl
      · have hne : (nx == g) = false := by rw [← Bool.not_eq_true, beq_iff_eq]; omega
        have hg0' : (g == 0) = false := by rw [← Bool.not_eq_true, beq_iff_eq]; omega
        have hg1' : (g == 1) = false := by rw [← Bool.not_eq_true, beq_iff_eq]; omega
        have hg2' : (g == 2) = false := by rw [← Bool.not_eq_true, beq_iff_eq]; omega
        rw [hlen] at h2
        simp only [push_cast, Nat.reduceBEq, Nat.reduceAdd, Nat.reduceEqDiff, reduceCtorEq, Nat.reduceLeDiff, Nat.reduceSub, Nat.reduceMul, Nat.reduceLT, Int.reduceEq, Int.reduceLT, Int.reduceLE, Int.reduceBEq, Int.reduceBNe, Int.reduceToNat, Int.reduceNeg, Int.reduceSub, Int.reduceAdd, h, hx, h0, h1, h2, hrow, addH, hw, hb, hlen, hne, hn0', hn1', hn2', hg0', hg1', hg2']
        refine callD hm ?_
        have hlen' : (e.new.take k).length = k := by rw [List.length_take]; omega
        simp only [push_cast, Nat.reduceBEq, Nat.reduceAdd, Nat.reduceEqDiff, reduceCtorEq, Nat.reduceLeDiff, Nat.reduceSub, Nat.reduceMul, Nat.reduceLT, Int.reduceEq, Int.reduceLT, Int.reduceLE, Int.reduceBEq, Int.reduceBNe, Int.reduceToNat, Int.reduceNeg, Int.reduceSub, Int.reduceAdd, h, hx, h0, h1, h2, hrow, addH, hw, hb, hlen', hne, hn0', hn1', hn2', hg0', hg1', hg2']
        refine ⟨_, by omega, k + 1, _, nx + 1, _, rfl, rfl, by omega, by omega, ?_, ?_, upd_same _ _ _, ?_, .inr ⟨nx, ?_, by omega, by omega, ?_⟩⟩
        · rw [upd_other (by omega), upd_other (by omega), upd_other (by omega)]; exact h0
        · rw [upd_other (by omega), upd_other (by omega), upd_other (by omega)]; exact h1
        · rcases hrc with h | ⟨c', rfl, c3, c4, hc⟩
          · exact .inl h
          · have hcg : c' ≠ g := fun e => by rw [e, hrow] at hc; injection hc with hc; injection hc with _ hc; exact absurd hc (by decide)
            exact .inr ⟨c', rfl, c3, by omega, by rw [upd_other (by omega), upd_other (by omega), upd_other (by omega)]; exact hc⟩
        · rw [List.length_map, List.length_take, Nat.min_eq_left (by omega)]
        · rw [upd_other (by omega), upd_same, List.take_add_one, hx, List.map_append]; rfl
    · obtain rfl : k = e.new.length := by omega
      rw [List.take_length] at hrow
      have hc1 := nilRow_one hrc
      have hd1 := nilRow_one hrow
      simp only [AV.isOne, Value.oneCell'] at hc1 hd1
      have v0 := nilRow_view (H' := upd H 1 (some (.cells [.lit (.int .i64 e.log), .lit (.int .i64 e.next), .lit (.int .i64 e.seq), c, d]))) hrc (fun j hj => upd_other (by omega))
      have v1 := nilRow_view (H' := upd H 1 (some (.cells [.lit (.int .i64 e.log), .lit (.int .i64 e.next), .lit (.int .i64 e.seq), c, d]))) hrow (fun j hj => upd_other (by omega))
      simp only [push_cast, Nat.reduceBEq, Nat.reduceAdd, Nat.reduceEqDiff, reduceCtorEq, Nat.reduceLeDiff, Nat.reduceSub, Nat.reduceMul, Nat.reduceLT, Int.reduceEq, Int.reduceLT, Int.reduceLE, Int.reduceBEq, Int.reduceBNe, Int.reduceToNat, Int.reduceNeg, Int.reduceSub, Int.reduceAdd, AV.view1] at v0 v1
      simp only [push_cast, Nat.reduceBEq, Nat.reduceAdd, Nat.reduceEqDiff, reduceCtorEq, Nat.reduceLeDiff, Nat.reduceSub, Nat.reduceMul, Nat.reduceLT, Int.reduceEq, Int.reduceLT, Int.reduceLE, Int.reduceBEq, Int.reduceBNe, Int.reduceToNat, Int.reduceNeg, Int.reduceSub, Int.reduceAdd, h, h0, h1, h2, hc1, hd1, v0, v1]
theorem SameEdit_refl (e : EdD) (hg : e.gone.length ≤ 1000000) (hn : e.new.length ≤ 1000000) : Hv.ACalls Try.prog 25 [edH e, edH e] (.lit (.bool true)) := by
  refine acallsC_of (rs := [.tmp 4]) ⟨[0, 1, 2, 3, 4, 5, 6, 43, 48, 61, 66, 79], [], [], [(6, [(0, [], []), (1, [], []), (2, [], []), (3, [], []), (4, [], []), (5, [], []), (6, [], []), (7, [], []), (8, [], []), (9, [], []), (10, [], [])]), (11, [(0, [], []), (1, [], []), (2, [], []), (3, [], []), (4, [], []), (5, [], []), (6, [], []), (7, [], []), (8, [], []), (9, [], []), (10, [], [])])], [], []⟩ TOk mixed Try.func25 rfl rfl (by kernel_rfl) (by kernel_rfl) rfl (nid2 (noId_ed e) (noId_ed e)) (.lit _) ?_
  have hlog : (e.log != e.log) = false := by simp
  have hnx : (e.next != e.next) = false := by simp
  have hsq : (e.seq != e.seq) = false := by simp
  have hgl : ((e.gone.length : Int) != (e.gone.length : Int)) = false := by simp
  have hnl : ((e.new.length : Int) != (e.new.length : Int)) = false := by simp
  simp only [push_cast, Nat.reduceBEq, Nat.reduceAdd, Nat.reduceEqDiff, reduceCtorEq, Nat.reduceLeDiff, Nat.reduceSub, Nat.reduceMul, Nat.reduceLT, Int.reduceEq, Int.reduceLT, Int.reduceLE, Int.reduceBEq, Int.reduceBNe, Int.reduceToNat, Int.reduceNeg, Int.reduceSub, Int.reduceAdd, edH, hlog, hnx, hsq, hgl, hnl]
  refine loopK (fun n x => ∃ (k : Nat) (H : Hp), x = ⟨[(2, .ptr 0 0), (3, .ptr 1 0), (5, .lit (.int .i64 (k : Int)))], H, 2⟩ ∧ n = e.gone.length - k ∧ k ≤ e.gone.length ∧ H 0 = some (.cells [.lit (.int .i64 e.log), .lit (.int .i64 e.next), .lit (.int .i64 e.seq), .sl (e.gone.map plH), .sl (e.new.map addH)]) ∧
    H 1 = some (.cells [.lit (.int .i64 e.log), .lit (.int .i64 e.next), .lit (.int .i64 e.seq), .sl (e.gone.map plH), .sl (e.new.map addH)])) _ [2, 3, 5] (by exact ⟨0, _, rfl, rfl, by omega, rfl, rfl⟩) ?_
  rintro n _ ⟨k, H, rfl, rfl, hk, h0, h1⟩
  by_cases h : k < e.gone.length
  · obtain ⟨x, hx⟩ : ∃ x, e.gone[k]? = some x := ⟨_, List.getElem?_eq_getElem h⟩
    have hw := wrap_nat (k := k) (by omega)
    simp only [push_cast, Nat.reduceBEq, Nat.reduceAdd, Nat.reduceEqDiff, reduceCtorEq, Nat.reduceLeDiff, Nat.reduceSub, Nat.reduceMul, Nat.reduceLT, Int.reduceEq, Int.reduceLT, Int.reduceLE, Int.reduceBEq, Int.reduceBNe, Int.reduceToNat, Int.reduceNeg, Int.reduceSub, Int.reduceAdd, h, hx, h0, h1, plH, hw]
    exact ⟨_, by omega, k + 1, _, rfl, rfl, by omega, h0, h1⟩
  · obtain rfl : k = e.gone.length := by omega
    simp only [push_cast, Nat.reduceBEq, Nat.reduceAdd, Nat.reduceEqDiff, reduceCtorEq, Nat.reduceLeDiff, Nat.reduceSub, Nat.reduceMul, Nat.reduceLT, Int.reduceEq, Int.reduceLT, Int.reduceLE, Int.reduceBEq, Int.reduceBNe, Int.reduceToNat, Int.reduceNeg, Int.reduceSub, Int.reduceAdd, h, h0, h1]
    refine loopK (fun n x => ∃ (k : Nat) (H : Hp), x = ⟨[(2, .ptr 0 0), (3, .ptr 1 0), (6, .lit (.int .i64 (k : Int)))], H, 2⟩ ∧ n = e.new.length - k ∧ k ≤ e.new.length ∧ H 0 = some (.cells [.lit (.int .i64 e.log), .lit (.int .i64 e.next), .lit (.int .i64 e.seq), .sl (e.gone.map plH), .sl (e.new.map addH)]) ∧
      H 1 = some (.cells [.lit (.int .i64 e.log), .lit (.int .i64 e.next), .lit (.int .i64 e.seq), .sl (e.gone.map plH), .sl (e.new.map addH)])) _ [2, 3, 6] (by exact ⟨0, _, rfl, rfl, by omega, h0, h1⟩) ?_
    clear h0 h1
    rintro n _ ⟨k, H, rfl, rfl, hk, h0, h1⟩
    by_cases h : k < e.new.length
    · obtain ⟨x, hx⟩ : ∃ x, e.new[k]? = some x := ⟨_, List.getElem?_eq_getElem h⟩
      have hw := wrap_nat (k := k) (by omega)
      simp only [push_cast, Nat.reduceBEq, Nat.reduceAdd, Nat.reduceEqDiff, reduceCtorEq, Nat.reduceLeDiff, Nat.reduceSub, Nat.reduceMul, Nat.reduceLT, Int.reduceEq, Int.reduceLT, Int.reduceLE, Int.reduceBEq, Int.reduceBNe, Int.reduceToNat, Int.reduceNeg, Int.reduceSub, Int.reduceAdd, h, hx, h0, h1, addH, hw]
      exact ⟨_, by omega, k + 1, _, rfl, rfl, by omega, h0, h1⟩
    · simp only [push_cast, Nat.reduceBEq, Nat.reduceAdd, Nat.reduceEqDiff, reduceCtorEq, Nat.reduceLeDiff, Nat.reduceSub, Nat.reduceMul, Nat.reduceLT, Int.reduceEq, Int.reduceLT, Int.reduceLE, Int.reduceBEq, Int.reduceBNe, Int.reduceToNat, Int.reduceNeg, Int.reduceSub, Int.reduceAdd, h, h0, h1]
theorem Same_refl (s : StD) (hl : ∀ i, i < 4 → (s.lv i).length ≤ 1000000) : Hv.ACalls Try.prog 36 [stH s, stH s] (.lit (.bool true)) := by
  refine acallsC_of (rs := [.tmp 4]) ⟨[0, 1, 2, 3, 4, 5, 24, 26, 38], [], [], [(6, [(0, [], []), (1, [], []), (2, [], []), (3, [], []), (4, [], []), (5, [], []), (6, [], []), (7, [], []), (8, [], [3, 7, 2, 6, 1, 0, 5, 4]), (9, [], [])])], [], []⟩ TOk mixed Try.func36 rfl rfl (by kernel_rfl) (by kernel_rfl) rfl (nid2 (noId_st s) (noId_st s)) (.lit _) ?_
  have hlog : (s.log != s.log) = false := by simp
  have hnx : (s.next != s.next) = false := by simp
  have hsq : (s.seq != s.seq) = false := by simp
  simp only [push_cast, Nat.reduceBEq, Nat.reduceAdd, Nat.reduceEqDiff, reduceCtorEq, Nat.reduceLeDiff, Nat.reduceSub, Nat.reduceMul, Nat.reduceLT, Int.reduceEq, Int.reduceLT, Int.reduceLE, Int.reduceBEq, Int.reduceBNe, Int.reduceToNat, Int.reduceNeg, Int.reduceSub, Int.reduceAdd, stH, hlog, hnx, hsq]
  refine loopK (fun n x => ∃ (k : Nat) (H : Hp), x = ⟨[(2, .ptr 0 0), (3, .ptr 1 0), (5, .lit (.int .i64 (k : Int)))], H, 2⟩ ∧ n = 4 - k ∧ k ≤ 4 ∧ H 0 = some (.cells [.lit (.int .i64 s.log), .lit (.int .i64 s.next), .lit (.int .i64 s.seq), .sl ((s.lv 0).map metaH), .sl ((s.lv 1).map metaH), .sl ((s.lv 2).map metaH), .sl ((s.lv 3).map metaH)]) ∧
    H 1 = some (.cells [.lit (.int .i64 s.log), .lit (.int .i64 s.next), .lit (.int .i64 s.seq), .sl ((s.lv 0).map metaH), .sl ((s.lv 1).map metaH), .sl ((s.lv 2).map metaH), .sl ((s.lv 3).map metaH)])) _ [2, 3, 5] (by exact ⟨0, _, rfl, rfl, by omega, rfl, rfl⟩) ?_
  rintro n _ ⟨k, H, rfl, rfl, hk, h0, h1⟩
  obtain rfl | rfl | rfl | rfl | rfl : k = 0 ∨ k = 1 ∨ k = 2 ∨ k = 3 ∨ k = 4 := by omega
  case inr.inr.inr.inr => simp only [push_cast, Nat.reduceBEq, Nat.reduceAdd, Nat.reduceEqDiff, reduceCtorEq, Nat.reduceLeDiff, Nat.reduceSub, Nat.reduceMul, Nat.reduceLT, Int.reduceEq, Int.reduceLT, Int.reduceLE, Int.reduceBEq, Int.reduceBNe, Int.reduceToNat, Int.reduceNeg, Int.reduceSub, Int.reduceAdd, h0, h1]
  · have hw : IntKind.i64.wrap 1 = 1 := by decide
    simp only [push_cast, Nat.reduceBEq, Nat.reduceAdd, Nat.reduceEqDiff, reduceCtorEq, Nat.reduceLeDiff, Nat.reduceSub, Nat.reduceMul, Nat.reduceLT, Int.reduceEq, Int.reduceLT, Int.reduceLE, Int.reduceBEq, Int.reduceBNe, Int.reduceToNat, Int.reduceNeg, Int.reduceSub, Int.reduceAdd, h0, h1]
    refine callD (Metas_refl _ (hl 0 (by omega))) ?_
    simp only [push_cast, Nat.reduceBEq, Nat.reduceAdd, Nat.reduceEqDiff, reduceCtorEq, Nat.reduceLeDiff, Nat.reduceSub, Nat.reduceMul, Nat.reduceLT, Int.reduceEq, Int.reduceLT, Int.reduceLE, Int.reduceBEq, Int.reduceBNe, Int.reduceToNat, Int.reduceNeg, Int.reduceSub, Int.reduceAdd, h0, h1, hw]
    exact ⟨_, by omega, 1, H, rfl, rfl, by omega, h0, h1⟩
  · have hw : IntKind.i64.wrap 2 = 2 := by decide
    simp only [push_cast, Nat.reduceBEq, Nat.reduceAdd, Nat.reduceEqDiff, reduceCtorEq, Nat.reduceLeDiff, Nat.reduceSub, Nat.reduceMul, Nat.reduceLT, Int.reduceEq, Int.reduceLT, Int.reduceLE, Int.reduceBEq, Int.reduceBNe, Int.reduceToNat, Int.reduceNeg, Int.reduceSub, Int.reduceAdd, h0, h1]
    refine callD (Metas_refl _ (hl 1 (by omega))) ?_
    simp only [push_cast, Nat.reduceBEq, Nat.reduceAdd, Nat.reduceEqDiff, reduceCtorEq, Nat.reduceLeDiff, Nat.reduceSub, Nat.reduceMul, Nat.reduceLT, Int.reduceEq, Int.reduceLT, Int.reduceLE, Int.reduceBEq, Int.reduceBNe, Int.reduceToNat, Int.reduceNeg, Int.reduceSub, Int.reduceAdd, h0, h1, hw]
    exact ⟨_, by omega, 2, H, rfl, rfl, by omega, h0, h1⟩
  · have hw : IntKind.i64.wrap 3 = 3 := by decide
    simp only [push_cast, Nat.reduceBEq, Nat.reduceAdd, Nat.reduceEqDiff, reduceCtorEq, Nat.reduceLeDiff, Nat.reduceSub, Nat.reduceMul, Nat.reduceLT, Int.reduceEq, Int.reduceLT, Int.reduceLE, Int.reduceBEq, Int.reduceBNe, Int.reduceToNat, Int.reduceNeg, Int.reduceSub, Int.reduceAdd, h0, h1]
    refine callD (Metas_refl _ (hl 2 (by omega))) ?_
    simp only [push_cast, Nat.reduceBEq, Nat.reduceAdd, Nat.reduceEqDiff, reduceCtorEq, Nat.reduceLeDiff, Nat.reduceSub, Nat.reduceMul, Nat.reduceLT, Int.reduceEq, Int.reduceLT, Int.reduceLE, Int.reduceBEq, Int.reduceBNe, Int.reduceToNat, Int.reduceNeg, Int.reduceSub, Int.reduceAdd, h0, h1, hw]
    exact ⟨_, by omega, 3, H, rfl, rfl, by omega, h0, h1⟩
  · have hw : IntKind.i64.wrap 4 = 4 := by decide
    simp only [push_cast, Nat.reduceBEq, Nat.reduceAdd, Nat.reduceEqDiff, reduceCtorEq, Nat.reduceLeDiff, Nat.reduceSub, Nat.reduceMul, Nat.reduceLT, Int.reduceEq, Int.reduceLT, Int.reduceLE, Int.reduceBEq, Int.reduceBNe, Int.reduceToNat, Int.reduceNeg, Int.reduceSub, Int.reduceAdd, h0, h1]
    refine callD (Metas_refl _ (hl 3 (by omega))) ?_
    simp only [push_cast, Nat.reduceBEq, Nat.reduceAdd, Nat.reduceEqDiff, reduceCtorEq, Nat.reduceLeDiff, Nat.reduceSub, Nat.reduceMul, Nat.reduceLT, Int.reduceEq, Int.reduceLT, Int.reduceLE, Int.reduceBEq, Int.reduceBNe, Int.reduceToNat, Int.reduceNeg, Int.reduceSub, Int.reduceAdd, h0, h1, hw]
    exact ⟨_, by omega, 4, H, rfl, rfl, by omega, h0, h1⟩
end Go.Proofs.Ytheanmfdfoefoaa
