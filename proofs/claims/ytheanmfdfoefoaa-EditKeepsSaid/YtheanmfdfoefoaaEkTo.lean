/- Edit: the law's own edit, in memory of its own with spare room that is told. -/
import Derived.Test.YtheanmfdfoefoaaEdTo
namespace Go.Proofs.Ytheanmfdfoefoaa
open Go Go.RowKit Hv
set_option linter.unusedVariables false
set_option linter.unusedSimpArgs false
set_option maxRecDepth 20000
set_option maxHeartbeats 8000000
/-- A table of noughts. -/
def za : List AV := [.lit (.int .i64 0), .lit (.int .i64 0), .lit (.int .i64 0), .lit (.string ⟨#[]⟩), .lit (.string ⟨#[]⟩)]
/-- The row when the first k are there. -/
def gk (l : List AddD) (W k : Nat) : List (List AV) := (l.take k).map addH ++ List.replicate (W - k) za
theorem gk_len {l : List AddD} {W k : Nat} (hk : k ≤ l.length) (hW : l.length ≤ W) : (gk l W k).length = W := by
  unfold gk; simp; omega
theorem gk_step {l : List AddD} {W k : Nat} {x : AddD} (hx : l[k]? = some x) (hk : k < l.length) (hW : l.length ≤ W) : spliceL (gk l W k) k [addH x] = gk l W (k + 1) := by
  unfold spliceL gk
  have hl : ((l.take k).map addH).length = k := by rw [List.length_map, List.length_take]; omega
  rw [List.take_left' hl, List.length_singleton, List.drop_append, hl, List.drop_of_length_le (by omega), List.nil_append, Nat.add_sub_cancel_left, List.drop_replicate, List.take_add_one, hx, List.map_append]
  rfl
def InR (e : EdD) (W : Nat) (r : AV) (H : Hp) (n : Nat) : Prop := r = .agg [.lit (.int .i64 e.log), .lit (.int .i64 e.next), .lit (.int .i64 e.seq), .rw 2 2 0 0, .rc 3 5 e.new.length W] ∧ H 3 = some (.row true 93 (gk e.new W e.new.length)) ∧ H 2 = some (.row false 120 []) ∧ 5 ≤ n
theorem toM_h (e : EdD) (hg : e.gone = []) (hn : e.new.length ≤ 1000000) (W : Nat) (hW : W = e.new.length + 2) : HCalls Try.prog 35 [edH e] (fun _ => none) 0 (InR e W) := by
  refine hcallsC_of (rs := [.cell 2 67]) ⟨[0, 1, 2, 3, 4, 5, 27, 52], [], [], [(1, [(0, [], []), (1, [], []), (2, [], []), (3, [], []), (4, [], []), (5, [], []), (6, [], []), (7, [], []), (8, [], []), (9, [10], []), (11, [], []), (12, [], []), (13, [], []), (14, [15], []), (10, [1, 3, 5, 12, 13], [9, 8, 7, 6]), (15, [1, 3, 5, 7, 8], [14, 13, 12, 11]), (16, [], []), (17, [1, 3, 5, 7, 8, 12, 13], []), (18, [], [17, 16, 0, 1, 2, 3, 4, 5, 6, 7, 8, 9, 10, 11, 12, 13, 14, 15])]), (5, [(0, [], []), (1, [], []), (2, [], []), (3, [], []), (4, [], []), (5, [], []), (6, [], []), (7, [], []), (8, [], []), (9, [], []), (10, [], []), (11, [], []), (12, [], []), (13, [], []), (14, [], []), (15, [], []), (16, [], [1, 15, 0, 14, 7, 13, 6, 12, 5, 11, 3, 4, 9, 10, 2, 8]), (17, [], []), (18, [], [17, 16, 0, 1, 2, 3, 4, 5, 6, 7, 8, 9, 10, 11, 12, 13, 14, 15])]), (9, [(0, [], []), (1, [], []), (2, [], []), (3, [], []), (4, [], []), (5, [], []), (6, [], []), (7, [], []), (8, [], []), (9, [], []), (10, [], []), (11, [], []), (12, [], []), (13, [], []), (14, [], []), (15, [], []), (16, [], []), (17, [], []), (18, [], []), (19, [], []), (20, [], []), (21, [], []), (22, [], []), (23, [], []), (24, [], []), (25, [], []), (26, [], []), (27, [], []), (28, [], []), (29, [], []), (30, [], []), (31, [], []), (32, [], []), (33, [], []), (34, [], []), (35, [], []), (36, [], []), (37, [], []), (38, [], []), (39, [], [1, 38, 0, 37, 7, 36, 6, 14, 21, 28, 35, 5, 13, 20, 27, 34, 3, 4, 12, 19, 26, 33, 2, 11, 18, 25, 32, 9, 10, 16, 17, 23, 24, 30, 31, 8, 15, 22, 29]), (40, [], []), (41, [], [40, 39, 0, 1, 2, 3, 4, 5, 6, 7, 8, 9, 10, 11, 12, 13, 14, 15, 16, 17, 18, 19, 20, 21, 22, 23, 24, 25, 26, 27, 28, 29, 30, 31, 32, 33, 34, 35, 36, 37, 38])])], [], [21]⟩ TOk mixed Try.func35 rfl rfl (by kernel_rfl) (by kernel_rfl) rfl ?_
  have hwn : IntKind.i64.wrap ((e.new.length : Int) + 2) = (W : Int) := by rw [IntWalk.i64_in _ (by omega)]; omega
  have hnb : (56 : Int) * (W : Int) ≤ 281474976710656 := by omega
  have hw2 : IntKind.i64.wrap 2 = 2 := by decide
  have hb2 : (16 : Int) * 2 ≤ 140737488355328 := by decide
  simp only [push_cast, Nat.reduceBEq, Nat.reduceAdd, Nat.reduceEqDiff, reduceCtorEq, Nat.reduceLeDiff, Nat.reduceSub, Nat.reduceMul, Nat.reduceLT, Int.reduceEq, Int.reduceLT, Int.reduceLE, Int.reduceBEq, Int.reduceBNe, Int.reduceToNat, Int.reduceNeg, Int.reduceSub, Int.reduceAdd, edH, hg, hwn, hnb, hw2, hb2, List.replicate_zero, Int.natCast_zero, Int.zero_add]
  obtain ⟨H, hH⟩ : ∃ H : Hp, H = upd (upd (upd (upd (upd (upd (fun _ => none) 0 (some (.cells [.lit (.int .i64 e.log), .lit (.int .i64 e.next), .lit (.int .i64 e.seq), .sl [], .sl (e.new.map addH)]))) 1 (some (.cells [.lit (.int .i64 0), .lit (.int .i64 0), .lit (.int .i64 0), .lit (.slice none 0 0), .lit (.slice none 0 0)]))) 2 (some (.row false 120 []))) 3 (some (.row true 93 (List.replicate W za)))) 4 (some (.cells [.lit (.int .i64 0), .lit (.int .i64 0), .lit (.int .i64 0), .lit (.slice none 0 0), .lit (.slice none 0 0)]))) 4 (some (.cells [.lit (.int .i64 e.log), .lit (.int .i64 e.next), .lit (.int .i64 e.seq), .rw 2 2 0 0, .rc 3 5 0 W])) := ⟨_, rfl⟩
  have h0 : H 0 = some (.cells [.lit (.int .i64 e.log), .lit (.int .i64 e.next), .lit (.int .i64 e.seq), .sl [], .sl (e.new.map addH)]) := by rw [hH]; rfl
  have h1 : H 1 = some (.cells [.lit (.int .i64 0), .lit (.int .i64 0), .lit (.int .i64 0), .lit (.slice none 0 0), .lit (.slice none 0 0)]) := by rw [hH]; rfl
  have h2 : H 2 = some (.row false 120 []) := by rw [hH]; rfl
  have h3 : H 3 = some (.row true 93 (gk e.new W 0)) := by rw [hH]; rfl
  have h4 : H 4 = some (.cells [.lit (.int .i64 e.log), .lit (.int .i64 e.next), .lit (.int .i64 e.seq), .rw 2 2 0 0, .rc 3 5 0 W]) := by rw [hH]; rfl
  refine loopK (fun n x => n = 0 ∧ x = ⟨[(1, .ptr 0 0), (2, .ptr 1 0), (3, .ptr 4 0), (4, .lit (.int .i64 0))], H, 5⟩) _ [1, 2, 3, 4] (by rw [hH]; exact ⟨rfl, rfl⟩) ?_
  clear hH
  rintro n _ ⟨rfl, rfl⟩
  simp only [push_cast, Nat.reduceBEq, Nat.reduceAdd, Nat.reduceEqDiff, reduceCtorEq, Nat.reduceLeDiff, Nat.reduceSub, Nat.reduceMul, Nat.reduceLT, Int.reduceEq, Int.reduceLT, Int.reduceLE, Int.reduceBEq, Int.reduceBNe, Int.reduceToNat, Int.reduceNeg, Int.reduceSub, Int.reduceAdd, h0, Int.lt_irrefl]
  refine loopK (fun n x => ∃ (k c nx : Nat) (H : Hp), x = ⟨[(1, .ptr 0 0), (2, .ptr 1 0), (3, .ptr 4 0), (5, .lit (.int .i64 (k : Int)))], H, nx⟩ ∧ k = c ∧ n = e.new.length - k ∧ k ≤ e.new.length ∧ 5 ≤ nx ∧ H 0 = some (.cells [.lit (.int .i64 e.log), .lit (.int .i64 e.next), .lit (.int .i64 e.seq), .sl [], .sl (e.new.map addH)]) ∧
    H 1 = some (.cells [.lit (.int .i64 0), .lit (.int .i64 0), .lit (.int .i64 0), .lit (.slice none 0 0), .lit (.slice none 0 0)]) ∧ H 2 = some (.row false 120 []) ∧ H 3 = some (.row true 93 (gk e.new W k)) ∧
    H 4 = some (.cells [.lit (.int .i64 e.log), .lit (.int .i64 e.next), .lit (.int .i64 e.seq), .rw 2 2 0 0, .rc 3 5 c W])) _ [1, 2, 3, 5] (by exact ⟨0, 0, 5, H, rfl, rfl, rfl, Nat.zero_le _, Nat.le_refl _, h0, h1, h2, h3, h4⟩) ?_
  clear h0 h1 h2 h3 h4 H
  rintro n _ ⟨k, c, nx, H, rfl, rfl, rfl, hk, h5, h0, h1, h2, h3, h4⟩
  by_cases h : k < e.new.length
  · obtain ⟨x, hx⟩ : ∃ x, e.new[k]? = some x := ⟨_, List.getElem?_eq_getElem h⟩
    have hw := wrap_nat (k := k) (by omega)
    have hlen := gk_len (l := e.new) (W := W) (Nat.le_of_lt h) (by omega)
    have hstep := gk_step (W := W) hx h (by omega)
    have hW0 : 0 < W := by omega
    have hkW : k + 1 ≤ W := by omega
    have hn0' : (nx == 0) = false := neB (by omega)
    have hn1' : (nx == 1) = false := neB (by omega)
    have hn2' : (nx == 2) = false := neB (by omega)
    have hn3' : (nx == 3) = false := neB (by omega)
    have hn4' : (nx == 4) = false := neB (by omega)
    have hax : addH x = [.lit (.int .i64 x.level), .lit (.int .i64 x.t.file), .lit (.int .i64 x.t.size), .lit (.string x.t.first), .lit (.string x.t.last)] := rfl
    rw [hax] at hstep
    simp only [push_cast, Nat.reduceBEq, Nat.reduceAdd, Nat.reduceEqDiff, reduceCtorEq, Nat.reduceLeDiff, Nat.reduceSub, Nat.reduceMul, Nat.reduceLT, Int.reduceEq, Int.reduceLT, Int.reduceLE, Int.reduceBEq, Int.reduceBNe, Int.reduceToNat, Int.reduceNeg, Int.reduceSub, Int.reduceAdd, h, hx, h0, h3, h4, hax, hw, hlen, hstep, hW0, hkW, hn0', hn1', hn2', hn3', hn4']
    refine ⟨_, by omega, k + 1, k + 1, nx, _, rfl, rfl, rfl, by omega, by omega, ?_, ?_, ?_, ?_, upd_same _ _ _⟩
    · rw [upd_other (by omega), upd_other (by omega)]; exact h0
    · rw [upd_other (by omega), upd_other (by omega)]; exact h1
    · rw [upd_other (by omega), upd_other (by omega)]; exact h2
    · rw [upd_other (by omega), upd_same]
  · obtain rfl : k = e.new.length := by omega
    simp only [push_cast, Nat.reduceBEq, Nat.reduceAdd, Nat.reduceEqDiff, reduceCtorEq, Nat.reduceLeDiff, Nat.reduceSub, Nat.reduceMul, Nat.reduceLT, Int.reduceEq, Int.reduceLT, Int.reduceLE, Int.reduceBEq, Int.reduceBNe, Int.reduceToNat, Int.reduceNeg, Int.reduceSub, Int.reduceAdd, h, h0, h1, h4]
    exact ⟨rfl, by rw [upd_other (by omega)]; exact h3, by rw [upd_other (by omega)]; exact h2, h5⟩
end Go.Proofs.Ytheanmfdfoefoaa
