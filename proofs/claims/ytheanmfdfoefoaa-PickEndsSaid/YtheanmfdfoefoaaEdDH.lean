/- The reference's DocHolding and DocWhole, the program's Holding and Whole, by the walk over a heap. -/
import Derived.Test.YtheanmfdfoefoaaEdDF
import Derived.Test.YtheanmfdfoefoaaEdOwn
import Derived.Test.YtheanmfdfoefoaaHolding
set_option linter.unusedVariables false
set_option linter.unusedSimpArgs false
namespace Go.Proofs.Ytheanmfdfoefoaa
open Go Go.RowKit Hv
set_option maxRecDepth 20000
set_option maxHeartbeats 8000000
theorem holding_h (s : StD) (key : ByteArray) (hl : ∀ n, n < 4 → (s.lv n).length ≤ 100000) : Hv.ACalls Try.prog 24 [stH s, .lit (.string key)] (.sl ((holdL s key).map metaH)) := by
  refine ⟨by kernel_rfl, fun w W gb vs hW hl' hr => ?_⟩
  match vs, hl', hr with
  | [v, u], _, hr =>
    obtain rfl := rep_lit (hr 1 _ _ rfl rfl)
    obtain ⟨f, rfl, hf⟩ := rd_st (hr 0 _ _ rfl rfl)
    exact (Holding_calls s f key w hf hl).mono fun e w' ⟨v', h1, h2, h3⟩ => ⟨_, h1, rep_of_own hW metaH_lit' metaC_len metaC_one (by decide) h2, h3⟩
theorem docHolding_h (s : StD) (key : ByteArray) (hl : ∀ n, n < 4 → (s.lv n).length ≤ 100000) : Hv.ACalls Try.prog 46 [stH s, .lit (.string key)] (.sl ((holdL s key).map metaH)) := by
  refine acallsC_of (rs := [.tmp 4]) ⟨[0, 1, 2, 4, 5, 6, 7, 8, 10, 19, 30, 52], [], [], [], [11]⟩ TOk mixed Try.func46 rfl rfl (by kernel_rfl) (by kernel_rfl) rfl (nid2 (noId_st s) (.lit _)) (noId_metas _) ?_
  simp only [push_cast, Nat.reduceBEq, Nat.reduceAdd, Nat.reduceEqDiff, reduceCtorEq, Nat.reduceLeDiff, Nat.reduceSub, Nat.reduceMul, Nat.reduceLT, Int.reduceEq, Int.reduceLT, Int.reduceLE, Int.reduceBEq, Int.reduceBNe, Int.reduceToNat, Int.reduceNeg, Int.reduceSub, Int.reduceAdd, stH]
  refine loopK (fun m x => ∃ (n nx id c : Nat) (H : Hp), n ≤ 4 ∧ m = 4 - n ∧ 1 ≤ id ∧ id < nx ∧ H 0 = some (.cells (stCells s)) ∧ H id = some (.row false 56 ((holdTo s key n).map metaH)) ∧ c = (holdTo s key n).length ∧ x = ⟨[(1, .lit (.string key)), (2, .ptr 0 0), (5, .rw id 4 0 c), (6, .lit (.int .i64 (n : Int)))], H, nx⟩) _ [1, 2, 5, 6] (by exact ⟨0, 3, 2, _, _, by omega, rfl, by omega, by omega, rfl, rfl, rfl, rfl⟩) ?_
  rintro m _ ⟨n, nx, id, c, H, hn, rfl, hid, hnx, r0, hrow, rfl, rfl⟩
  by_cases h4 : n < 4
  · have h4' : (n : Int) < 4 := by omega
    have hll : (lvH s n).length = (s.lv n).length := by unfold lvH; split; (rename_i e; subst e; rw [List.length_reverse]); rfl
    simp only [push_cast, Nat.reduceBEq, Nat.reduceAdd, Nat.reduceEqDiff, reduceCtorEq, Nat.reduceLeDiff, Nat.reduceSub, Nat.reduceMul, Nat.reduceLT, Int.reduceEq, Int.reduceLT, Int.reduceLE, Int.reduceBEq, Int.reduceBNe, Int.reduceToNat, Int.reduceNeg, Int.reduceSub, Int.reduceAdd, h4']
    refine loopK (fun m x => ∃ (k nx id c : Nat) (H : Hp), k ≤ (s.lv n).length ∧ m = (s.lv n).length - k ∧ 1 ≤ id ∧ id < nx ∧ H 0 = some (.cells (stCells s)) ∧ H id = some (.row false 56 ((holdTo s key n ++ ((lvH s n).take k).filter (holdsB key)).map metaH)) ∧ c = (holdTo s key n ++ ((lvH s n).take k).filter (holdsB key)).length ∧ x = ⟨[(1, .lit (.string key)), (2, .ptr 0 0), (5, .rw id 4 0 c), (6, .lit (.int .i64 (n : Int))), (7, .lit (.int .i64 (k : Int)))], H, nx⟩) _ [1, 2, 5, 6, 7] (by exact ⟨0, nx, id, _, H, by omega, rfl, hid, hnx, r0, by simpa using hrow, by simp, rfl⟩) ?_
    clear hrow r0 hnx hid
    rintro m _ ⟨k, nx, id, c, H, hk, rfl, hid, hnx, r0, hrow, rfl, rfl⟩
    obtain ⟨r, hr⟩ := lvl_at s h4
    have r0' := r0
    unfold stCells at r0
    have hlen : (holdTo s key n ++ ((lvH s n).take k).filter (holdsB key)).length ≤ 500000 := by
      have h1 := holdTo_len s key hl n hn
      have h2 := List.length_filter_le (holdsB key) ((lvH s n).take k)
      rw [List.length_take] at h2
      have := hl n h4
      rw [List.length_append]; omega
    have hnext : ∀ x, (lvH s n)[k]? = some x → holdTo s key n ++ ((lvH s n).take (k + 1)).filter (holdsB key) = (holdTo s key n ++ ((lvH s n).take k).filter (holdsB key)) ++ (if holdsB key x then [x] else []) := fun x hx => by
      rw [List.take_add_one, hx, List.filter_append, ← List.append_assoc]
      congr 1
      by_cases hh : holdsB key x = true
      · simp [hh]
      · simp [hh]
    have hfin : (lvH s n).length ≤ k → holdTo s key n ++ ((lvH s n).take k).filter (holdsB key) = holdTo s key (n + 1) := fun h => by
      rw [List.take_of_length_le h]; rfl
    generalize holdTo s key n ++ ((lvH s n).take k).filter (holdsB key) = out at hrow hlen hnext hfin
    by_cases h : k < (s.lv n).length
    · obtain ⟨x, hx⟩ : ∃ x, (s.lv n)[k]? = some x := ⟨_, List.getElem?_eq_getElem h⟩
      obtain ⟨y, hy⟩ : ∃ y, (lvH s n)[k]? = some y := ⟨_, List.getElem?_eq_getElem (by omega)⟩
      have hnext := hnext y hy
      have hwk := wrap_nat (k := k) (by have := hl n h4; omega)
      have e0 : (nx == 0) = false := neB (by omega)
      have e1 : (nx == id) = false := neB (by omega)
      simp only [push_cast, Nat.reduceBEq, Nat.reduceAdd, Nat.reduceEqDiff, reduceCtorEq, Nat.reduceLeDiff, Nat.reduceSub, Nat.reduceMul, Nat.reduceLT, Int.reduceEq, Int.reduceLT, Int.reduceLE, Int.reduceBEq, Int.reduceBNe, Int.reduceToNat, Int.reduceNeg, Int.reduceSub, Int.reduceAdd, r0, hr, h, h4', hx, metaH, e0]
      refine cutK (fun z => ∃ H', (∀ j, j < nx → H' j = H j) ∧ H' nx = some (.cells (metaH y)) ∧ z = ⟨[(1, .lit (.string key)), (2, .ptr 0 0), (5, .rw id 4 0 out.length), (6, .lit (.int .i64 (n : Int))), (7, .lit (.int .i64 (k : Int))), (8, .ptr nx 0)], H', nx + 1⟩) [1, 2, 5, 6, 7, 8] ?_ ?_
      · by_cases hn0 : n = 0
        · subst hn0
          have hy' : (s.lv 0)[(s.lv 0).length - 1 - k]? = some y := by
            unfold lvH at hy; rw [if_pos rfl, List.getElem?_reverse h] at hy; exact hy
          have hl0 := hl 0 (by omega)
          have hz : (((0 : Nat) : Int) == 0) = true := rfl
          have hw1 : IntKind.i64.wrap (((s.lv 0).length : Int) - 1) = (((s.lv 0).length - 1 : Nat) : Int) := by
            rw [show ((s.lv 0).length : Int) - 1 = (((s.lv 0).length - 1 : Nat) : Int) by omega]; exact IntWalk.i64_in _ (by omega)
          have hw2 : IntKind.i64.wrap ((((s.lv 0).length - 1 : Nat) : Int) - (k : Int)) = (((s.lv 0).length - 1 - k : Nat) : Int) := by
            rw [show (((s.lv 0).length - 1 : Nat) : Int) - (k : Int) = (((s.lv 0).length - 1 - k : Nat) : Int) by omega]; exact IntWalk.i64_in _ (by omega)
          generalize hm1 : (s.lv 0).length - 1 - k = m1 at hy' hw2
          generalize hm2 : (s.lv 0).length - 1 = m2 at hw1 hw2
          simp only [push_cast, Nat.reduceBEq, Nat.reduceAdd, Nat.reduceEqDiff, reduceCtorEq, Nat.reduceLeDiff, Nat.reduceSub, Nat.reduceMul, Nat.reduceLT, Int.reduceEq, Int.reduceLT, Int.reduceLE, Int.reduceBEq, Int.reduceBNe, Int.reduceToNat, Int.reduceNeg, Int.reduceSub, Int.reduceAdd, hz, r0, hw1, hw2, hy', metaH, e0]
          exact ⟨_, fun j hj => by (repeat rw [upd_other (by omega)]), upd_same _ _ _, rfl⟩
        · have hy' : y = x := by unfold lvH at hy; rw [if_neg hn0, hx] at hy; injection hy with hy; exact hy.symm
          subst hy'
          have hz : ((n : Int) == 0) = false := by simpa using hn0
          simp only [push_cast, Nat.reduceBEq, Nat.reduceAdd, Nat.reduceEqDiff, reduceCtorEq, Nat.reduceLeDiff, Nat.reduceSub, Nat.reduceMul, Nat.reduceLT, Int.reduceEq, Int.reduceLT, Int.reduceLE, Int.reduceBEq, Int.reduceBNe, Int.reduceToNat, Int.reduceNeg, Int.reduceSub, Int.reduceAdd, hz]
          exact ⟨_, fun j hj => by rw [upd_other (by omega), upd_other (by omega)], upd_same _ _ _, rfl⟩
      · rintro _ ⟨H', fr, hc, rfl⟩
        have hrow' := (fr id hnx).trans hrow
        have r0'' := (fr 0 (by omega)).trans r0'
        unfold metaH at hc
        have e2 : (nx == nx + 1) = false := neB (by omega)
        have e3 : (nx + 1 == id) = false := neB (by omega)
        have e4 : (nx + 1 + 1 == id) = false := neB (by omega)
        have e5 : (nx == nx + 1 + 1) = false := neB (by omega)
        have e6 : (nx + 1 == nx + 1 + 1) = false := neB (by omega)
        have e7 : (nx + 1 + 1 == nx + 1) = false := neB (by omega)
        have hb56 : (out.length + 1) * 48 ≤ 140737488355328 := by omega
        have hH : holdsB key y = (sle y.first key && !slt y.last key) := by unfold holdsB; rw [sle_not key y.last]
        cases q1 : sle y.first key with
        | false =>
          have hno : holdsB key y = false := by rw [hH, q1]; rfl
          rw [hno] at hnext
          simp only [Bool.false_eq_true, if_false, List.append_nil] at hnext
          unfold sle at q1
          simp only [push_cast, Nat.reduceBEq, Nat.reduceAdd, Nat.reduceEqDiff, reduceCtorEq, Nat.reduceLeDiff, Nat.reduceSub, Nat.reduceMul, Nat.reduceLT, Int.reduceEq, Int.reduceLT, Int.reduceLE, Int.reduceBEq, Int.reduceBNe, Int.reduceToNat, Int.reduceNeg, Int.reduceSub, Int.reduceAdd, hc, q1, hwk]
          exact ⟨_, by omega, k + 1, nx + 1, id, _, H', by omega, rfl, hid, by omega, r0'', by rw [hnext]; exact hrow', by rw [hnext], rfl⟩
        | true =>
          cases q2 : slt y.last key with
          | true =>
            have hno : holdsB key y = false := by rw [hH, q1, q2]; rfl
            rw [hno] at hnext
            simp only [Bool.false_eq_true, if_false, List.append_nil] at hnext
            unfold sle at q1
            unfold slt at q2
            simp only [push_cast, Nat.reduceBEq, Nat.reduceAdd, Nat.reduceEqDiff, reduceCtorEq, Nat.reduceLeDiff, Nat.reduceSub, Nat.reduceMul, Nat.reduceLT, Int.reduceEq, Int.reduceLT, Int.reduceLE, Int.reduceBEq, Int.reduceBNe, Int.reduceToNat, Int.reduceNeg, Int.reduceSub, Int.reduceAdd, hc, q1, q2, hwk]
            exact ⟨_, by omega, k + 1, nx + 1, id, _, H', by omega, rfl, hid, by omega, r0'', by rw [hnext]; exact hrow', by rw [hnext], rfl⟩
          | false =>
            have hno : holdsB key y = true := by rw [hH, q1, q2]; rfl
            rw [hno] at hnext
            simp only [if_true] at hnext
            unfold sle at q1
            unfold slt at q2
            simp only [push_cast, Nat.reduceBEq, Nat.reduceAdd, Nat.reduceEqDiff, reduceCtorEq, Nat.reduceLeDiff, Nat.reduceSub, Nat.reduceMul, Nat.reduceLT, Int.reduceEq, Int.reduceLT, Int.reduceLE, Int.reduceBEq, Int.reduceBNe, Int.reduceToNat, Int.reduceNeg, Int.reduceSub, Int.reduceAdd, hc, q1, q2, hwk, hrow', e2, e3, e4, e5, e6, e7, hb56]
            refine ⟨_, by omega, k + 1, nx + 1 + 1 + 1, nx + 1 + 1, _, _, by omega, rfl, by omega, by omega, ?_, ?_, by rw [hnext, List.length_append]; rfl, rfl⟩
            · (repeat rw [upd_other (by omega)]); exact r0''
            · rw [upd_same, hnext, List.map_append]; rfl
    · have hfin := hfin (by omega)
      have hwn : IntKind.i64.wrap ((n : Int) + 1) = (n : Int) + 1 := by have := wrap_nat (k := n) (by omega); rw [this]; rfl
      rw [hfin] at hrow
      simp only [push_cast, Nat.reduceBEq, Nat.reduceAdd, Nat.reduceEqDiff, reduceCtorEq, Nat.reduceLeDiff, Nat.reduceSub, Nat.reduceMul, Nat.reduceLT, Int.reduceEq, Int.reduceLT, Int.reduceLE, Int.reduceBEq, Int.reduceBNe, Int.reduceToNat, Int.reduceNeg, Int.reduceSub, Int.reduceAdd, r0, hr, h, h4', hwn, hfin]
      exact ⟨_, by omega, n + 1, nx, id, _, H, by omega, rfl, hid, hnx, r0', hrow, rfl, rfl⟩
  · obtain rfl : n = 4 := by omega
    rw [holdTo_all] at hrow
    have t5 : List.take (holdL s key).length (List.map metaH (holdL s key)) = List.map metaH (holdL s key) := List.take_of_length_le (by simp)
    simp only [push_cast, Nat.reduceBEq, Nat.reduceAdd, Nat.reduceEqDiff, reduceCtorEq, Nat.reduceLeDiff, Nat.reduceSub, Nat.reduceMul, Nat.reduceLT, Int.reduceEq, Int.reduceLT, Int.reduceLE, Int.reduceBEq, Int.reduceBNe, Int.reduceToNat, Int.reduceNeg, Int.reduceSub, Int.reduceAdd, holdTo_all, hrow, t5]
/-! ### all tables as one edit -/
def wholeTo (s : StD) : Nat → List AddD
  | 0 => []
  | n + 1 => wholeTo s n ++ (s.lv n).map fun m => ⟨(n : Int), m⟩
def wholeE (s : StD) : EdD := ⟨s.log, s.next, s.seq, [], wholeTo s 4⟩
theorem wholeTo_len (s : StD) (hl : ∀ n, n < 4 → (s.lv n).length ≤ 100000) : ∀ n, n ≤ 4 → (wholeTo s n).length ≤ n * 100000
  | 0, _ => by simp [wholeTo]
  | n + 1, h => by
    have := wholeTo_len s hl n (by omega)
    have := hl n (by omega)
    simp only [wholeTo, List.length_append, List.length_map]; omega
def zE5' : List AV := [.lit (.int .i64 0), .lit (.int .i64 0), .lit (.int .i64 0), .lit (.slice none 0 0), .lit (.slice none 0 0)]
def whC (s : StD) (v : AV) : List AV := [.lit (.int .i64 s.log), .lit (.int .i64 s.next), .lit (.int .i64 s.seq), .lit (.slice none 0 0), v]
structure WhM (s : StD) (ta : Nat) (l : List AddD) (v : AV) (nx : Nat) (H : Hp) : Prop where
  nx3 : 3 ≤ nx
  r0 : H 0 = some (.cells (stCells s))
  r1 : H 1 = some (.cells zE5')
  r2 : H 2 = some (.cells (whC s v))
  row : NilR H 3 nx ta 5 v (l.map addH)
theorem docWhole_h (s : StD) (hl : ∀ n, n < 4 → (s.lv n).length ≤ 100000) : Hv.ACalls Try.prog 47 [stH s] (edH (wholeE s)) := by
  refine acallsC_of (rs := [.cell 2 62]) ⟨[0, 1, 2, 3, 4, 5, 14, 23], [], [], [(8, [(0, [], []), (1, [], []), (2, [], []), (3, [], []), (4, [], []), (5, [], []), (6, [], []), (7, [], []), (8, [], []), (9, [], []), (10, [], []), (11, [], []), (12, [], [1, 11, 0, 10, 2, 9, 8, 6, 7, 5, 4, 3]), (13, [], []), (14, [], [13, 12, 0, 1, 2, 3, 4, 5, 6, 7, 8, 9, 10, 11])])], []⟩ TOk mixed Try.func47 rfl rfl (by kernel_rfl) (by kernel_rfl) rfl (nid1 (noId_st s)) (noId_ed _) ?_
  simp only [push_cast, Nat.reduceBEq, Nat.reduceAdd, Nat.reduceEqDiff, reduceCtorEq, Nat.reduceLeDiff, Nat.reduceSub, Nat.reduceMul, Nat.reduceLT, Int.reduceEq, Int.reduceLT, Int.reduceLE, Int.reduceBEq, Int.reduceBNe, Int.reduceToNat, Int.reduceNeg, Int.reduceSub, Int.reduceAdd, stH]
  refine loopK (fun m x => ∃ (n nx : Nat) (v : AV) (H : Hp), x = ⟨[(1, .ptr 0 0), (2, .ptr 1 0), (3, .ptr 2 0), (4, .lit (.int .i64 (n : Int)))], H, nx⟩ ∧ n ≤ 4 ∧ m = 4 - n ∧ WhM s 84 (wholeTo s n) v nx H) _ [1, 2, 3, 4] (by exact ⟨0, 3, _, _, rfl, by omega, rfl, ⟨by omega, rfl, rfl, rfl, .inl ⟨rfl, rfl⟩⟩⟩) ?_
  rintro m _ ⟨n, nx, v, H, rfl, hn, rfl, hM⟩
  by_cases h4 : n < 4
  · have h4' : (n : Int) < 4 := by omega
    simp only [push_cast, Nat.reduceBEq, Nat.reduceAdd, Nat.reduceEqDiff, reduceCtorEq, Nat.reduceLeDiff, Nat.reduceSub, Nat.reduceMul, Nat.reduceLT, Int.reduceEq, Int.reduceLT, Int.reduceLE, Int.reduceBEq, Int.reduceBNe, Int.reduceToNat, Int.reduceNeg, Int.reduceSub, Int.reduceAdd, h4']
    refine loopK (fun m x => ∃ (k nx : Nat) (v : AV) (H : Hp), x = ⟨[(1, .ptr 0 0), (2, .ptr 1 0), (3, .ptr 2 0), (4, .lit (.int .i64 (n : Int))), (5, .lit (.int .i64 (k : Int)))], H, nx⟩ ∧ k ≤ (s.lv n).length ∧ m = (s.lv n).length - k ∧ WhM s 84 (wholeTo s n ++ ((s.lv n).take k).map fun m => ⟨(n : Int), m⟩) v nx H) _ [1, 2, 3, 4, 5] (by exact ⟨0, nx, v, H, rfl, by omega, rfl, by simpa using hM⟩) ?_
    clear hM
    rintro m _ ⟨k, nx, v, H, rfl, hk, rfl, ⟨nx3, r0, r1, r2, row⟩⟩
    obtain ⟨r, hr⟩ := lvl_at s h4
    have r0' := r0
    have r2' := r2
    unfold stCells at r0
    unfold whC at r2
    have hlen : (wholeTo s n ++ ((s.lv n).take k).map fun m => (⟨(n : Int), m⟩ : AddD)).length ≤ 500000 := by
      have h1 := wholeTo_len s hl n hn
      have := hl n h4
      rw [List.length_append, List.length_map, List.length_take]; omega
    have hnext : ∀ x, (s.lv n)[k]? = some x → wholeTo s n ++ ((s.lv n).take (k + 1)).map (fun m => (⟨(n : Int), m⟩ : AddD)) = (wholeTo s n ++ ((s.lv n).take k).map fun m => (⟨(n : Int), m⟩ : AddD)) ++ [⟨(n : Int), x⟩] := fun x hx => by
      rw [List.take_add_one, hx, List.map_append, ← List.append_assoc]; rfl
    have hfin : (s.lv n).length ≤ k → wholeTo s n ++ ((s.lv n).take k).map (fun m => (⟨(n : Int), m⟩ : AddD)) = wholeTo s (n + 1) := fun h => by
      rw [List.take_of_length_le h]; rfl
    generalize (wholeTo s n ++ ((s.lv n).take k).map fun m => (⟨(n : Int), m⟩ : AddD)) = out at row hlen hnext hfin
    by_cases h : k < (s.lv n).length
    · obtain ⟨x, hx⟩ : ∃ x, (s.lv n)[k]? = some x := ⟨_, List.getElem?_eq_getElem h⟩
      have hnext := hnext x hx
      have hwk := wrap_nat (k := k) (by have := hl n h4; omega)
      have hb56 : (out.length + 1) * 56 ≤ 140737488355328 := by omega
      have e2 : (nx == 2) = false := neB (by omega)
      rcases row with ⟨rfl, hnil⟩ | ⟨id, rfl, i3, ilt, hrow⟩
      · obtain rfl : out = [] := by simpa using hnil
        simp only [push_cast, Nat.reduceBEq, Nat.reduceAdd, Nat.reduceEqDiff, reduceCtorEq, Nat.reduceLeDiff, Nat.reduceSub, Nat.reduceMul, Nat.reduceLT, Int.reduceEq, Int.reduceLT, Int.reduceLE, Int.reduceBEq, Int.reduceBNe, Int.reduceToNat, Int.reduceNeg, Int.reduceSub, Int.reduceAdd, r0, r2, hr, h, h4', hx, metaH, hwk, e2]
        refine ⟨_, by omega, k + 1, nx + 1, _, _, rfl, by omega, rfl, ⟨by omega, ?_, ?_, upd_same _ _ _, .inr ⟨nx, by rw [hnext]; rfl, by omega, by omega, ?_⟩⟩⟩
        · (repeat rw [upd_other (by omega)]); exact r0'
        · (repeat rw [upd_other (by omega)]); exact r1
        · rw [upd_other (by omega), upd_same, hnext]; rfl
      · have e3 : (id == 2) = false := neB (by omega)
        have e4 : (nx == id) = false := neB (by omega)
        simp only [push_cast, Nat.reduceBEq, Nat.reduceAdd, Nat.reduceEqDiff, reduceCtorEq, Nat.reduceLeDiff, Nat.reduceSub, Nat.reduceMul, Nat.reduceLT, Int.reduceEq, Int.reduceLT, Int.reduceLE, Int.reduceBEq, Int.reduceBNe, Int.reduceToNat, Int.reduceNeg, Int.reduceSub, Int.reduceAdd, r0, r2, hr, h, h4', hx, metaH, hwk, e2, e3, e4, hrow, hb56]
        refine ⟨_, by omega, k + 1, nx + 1, _, _, rfl, by omega, rfl, ⟨by omega, ?_, ?_, upd_same _ _ _, .inr ⟨nx, ?_, by omega, by omega, ?_⟩⟩⟩
        · (repeat rw [upd_other (by omega)]); exact r0'
        · (repeat rw [upd_other (by omega)]); exact r1
        · rw [hnext]; simp
        · rw [upd_other (by omega), upd_same, hnext, List.map_append]; rfl
    · have hfin := hfin (by omega)
      have hwn : IntKind.i64.wrap ((n : Int) + 1) = (n : Int) + 1 := by have := wrap_nat (k := n) (by omega); rw [this]; rfl
      rw [hfin] at row
      simp only [push_cast, Nat.reduceBEq, Nat.reduceAdd, Nat.reduceEqDiff, reduceCtorEq, Nat.reduceLeDiff, Nat.reduceSub, Nat.reduceMul, Nat.reduceLT, Int.reduceEq, Int.reduceLT, Int.reduceLE, Int.reduceBEq, Int.reduceBNe, Int.reduceToNat, Int.reduceNeg, Int.reduceSub, Int.reduceAdd, r0, hr, h, h4', hwn]
      exact ⟨_, by omega, n + 1, nx, v, H, rfl, by omega, rfl, ⟨nx3, r0', r1, r2', row⟩⟩
  · obtain rfl : n = 4 := by omega
    obtain ⟨nx3, r0, r1, r2, row⟩ := hM
    unfold whC at r2
    unfold zE5' at r1
    have v2 := nilR_view (H' := upd H 1 (some (.cells [.lit (.int .i64 s.log), .lit (.int .i64 s.next), .lit (.int .i64 s.seq), .lit (.slice none 0 0), v]))) row (fun j hj => upd_other (by omega))
    have hc1 := nilR_one row
    simp only [AV.isOne, Value.oneCell'] at hc1
    simp only [push_cast, Nat.reduceBEq, Nat.reduceAdd, Nat.reduceEqDiff, reduceCtorEq, Nat.reduceLeDiff, Nat.reduceSub, Nat.reduceMul, Nat.reduceLT, Int.reduceEq, Int.reduceLT, Int.reduceLE, Int.reduceBEq, Int.reduceBNe, Int.reduceToNat, Int.reduceNeg, Int.reduceSub, Int.reduceAdd, AV.view1] at v2
    simp only [push_cast, Nat.reduceBEq, Nat.reduceAdd, Nat.reduceEqDiff, reduceCtorEq, Nat.reduceLeDiff, Nat.reduceSub, Nat.reduceMul, Nat.reduceLT, Int.reduceEq, Int.reduceLT, Int.reduceLE, Int.reduceBEq, Int.reduceBNe, Int.reduceToNat, Int.reduceNeg, Int.reduceSub, Int.reduceAdd, r1, r2, hc1, v2]
    rfl
theorem whole_h (s : StD) (hl : ∀ n, n < 4 → (s.lv n).length ≤ 100000) : Hv.ACalls Try.prog 39 [stH s] (edH (wholeE s)) := by
  refine acallsC_of (rs := [.cell 2 67]) ⟨[0, 1, 2, 3, 4, 5, 7, 16, 17, 18, 21, 22, 23, 24], [], [], [], []⟩ TOk mixed Try.func39 rfl rfl (by kernel_rfl) (by kernel_rfl) rfl (nid1 (noId_st s)) (noId_ed _) ?_
  simp only [push_cast, Nat.reduceBEq, Nat.reduceAdd, Nat.reduceEqDiff, reduceCtorEq, Nat.reduceLeDiff, Nat.reduceSub, Nat.reduceMul, Nat.reduceLT, Int.reduceEq, Int.reduceLT, Int.reduceLE, Int.reduceBEq, Int.reduceBNe, Int.reduceToNat, Int.reduceNeg, Int.reduceSub, Int.reduceAdd, stH]
  refine loopK (fun m x => ∃ (n nx : Nat) (v : AV) (H : Hp), x = ⟨[(1, .ptr 0 0), (2, .ptr 1 0), (3, .ptr 2 0), (16, .agg [.sl ((s.lv 0).map metaH), .sl ((s.lv 1).map metaH), .sl ((s.lv 2).map metaH), .sl ((s.lv 3).map metaH)]), (17, .lit (.int .i64 (n : Int)))], H, nx⟩ ∧ n ≤ 4 ∧ m = 4 - n ∧ WhM s 93 (wholeTo s n) v nx H) _ [1, 2, 3, 16, 17] (by exact ⟨0, 3, _, _, rfl, by omega, rfl, ⟨by omega, rfl, rfl, rfl, .inl ⟨rfl, rfl⟩⟩⟩) ?_
  rintro m _ ⟨n, nx, v, H, rfl, hn, rfl, hM⟩
  by_cases h4 : n < 4
  · have h4' : (n : Int) < 4 := by omega
    have hlv := lv_at s h4
    simp only [push_cast, Nat.reduceBEq, Nat.reduceAdd, Nat.reduceEqDiff, reduceCtorEq, Nat.reduceLeDiff, Nat.reduceSub, Nat.reduceMul, Nat.reduceLT, Int.reduceEq, Int.reduceLT, Int.reduceLE, Int.reduceBEq, Int.reduceBNe, Int.reduceToNat, Int.reduceNeg, Int.reduceSub, Int.reduceAdd, h4', hlv]
    refine loopK (fun m x => ∃ (k nx : Nat) (v : AV) (H : Hp), x = ⟨[(1, .ptr 0 0), (2, .ptr 1 0), (3, .ptr 2 0), (4, .lit (.int .i64 (n : Int))), (16, .agg [.sl ((s.lv 0).map metaH), .sl ((s.lv 1).map metaH), .sl ((s.lv 2).map metaH), .sl ((s.lv 3).map metaH)]), (17, .lit (.int .i64 (n : Int))), (21, .sl ((s.lv n).map metaH)), (22, .lit (.int .i64 ((s.lv n).length : Int))), (23, .lit (.int .i64 (k : Int)))], H, nx⟩ ∧ k ≤ (s.lv n).length ∧ m = (s.lv n).length - k ∧ WhM s 93 (wholeTo s n ++ ((s.lv n).take k).map fun m => ⟨(n : Int), m⟩) v nx H) _ [1, 2, 3, 4, 16, 17, 21, 22, 23] (by exact ⟨0, nx, v, H, rfl, by omega, rfl, by simpa using hM⟩) ?_
    clear hM
    rintro m _ ⟨k, nx, v, H, rfl, hk, rfl, ⟨nx3, r0, r1, r2, row⟩⟩
    obtain ⟨r, hr⟩ := lvl_at s h4
    have r0' := r0
    have r2' := r2
    unfold stCells at r0
    unfold whC at r2
    have hlen : (wholeTo s n ++ ((s.lv n).take k).map fun m => (⟨(n : Int), m⟩ : AddD)).length ≤ 500000 := by
      have h1 := wholeTo_len s hl n hn
      have := hl n h4
      rw [List.length_append, List.length_map, List.length_take]; omega
    have hnext : ∀ x, (s.lv n)[k]? = some x → wholeTo s n ++ ((s.lv n).take (k + 1)).map (fun m => (⟨(n : Int), m⟩ : AddD)) = (wholeTo s n ++ ((s.lv n).take k).map fun m => (⟨(n : Int), m⟩ : AddD)) ++ [⟨(n : Int), x⟩] := fun x hx => by
      rw [List.take_add_one, hx, List.map_append, ← List.append_assoc]; rfl
    have hfin : (s.lv n).length ≤ k → wholeTo s n ++ ((s.lv n).take k).map (fun m => (⟨(n : Int), m⟩ : AddD)) = wholeTo s (n + 1) := fun h => by
      rw [List.take_of_length_le h]; rfl
    generalize (wholeTo s n ++ ((s.lv n).take k).map fun m => (⟨(n : Int), m⟩ : AddD)) = out at row hlen hnext hfin
    by_cases h : k < (s.lv n).length
    · obtain ⟨x, hx⟩ : ∃ x, (s.lv n)[k]? = some x := ⟨_, List.getElem?_eq_getElem h⟩
      have hnext := hnext x hx
      have hwk := wrap_nat (k := k) (by have := hl n h4; omega)
      have hb56 : (out.length + 1) * 56 ≤ 140737488355328 := by omega
      have e2 : (nx == 2) = false := neB (by omega)
      have e5 : (nx + 1 == 2) = false := neB (by omega)
      have e6 : (nx + 1 + 1 == 2) = false := neB (by omega)
      have e7 : (nx == nx + 1) = false := neB (by omega)
      have e8 : (nx + 1 + 1 == nx + 1) = false := neB (by omega)
      have e9 : (nx + 1 == nx) = false := neB (by omega)
      rcases row with ⟨rfl, hnil⟩ | ⟨id, rfl, i3, ilt, hrow⟩
      · obtain rfl : out = [] := by simpa using hnil
        simp only [push_cast, Nat.reduceBEq, Nat.reduceAdd, Nat.reduceEqDiff, reduceCtorEq, Nat.reduceLeDiff, Nat.reduceSub, Nat.reduceMul, Nat.reduceLT, Int.reduceEq, Int.reduceLT, Int.reduceLE, Int.reduceBEq, Int.reduceBNe, Int.reduceToNat, Int.reduceNeg, Int.reduceSub, Int.reduceAdd, r0, r2, hr, h, h4', hx, metaH, hwk, e2, e5, e6, e7, e8, e9]
        refine ⟨_, by omega, k + 1, nx + 1 + 1 + 1, _, _, rfl, by omega, rfl, ⟨by omega, ?_, ?_, upd_same _ _ _, .inr ⟨nx + 1 + 1, by rw [hnext]; rfl, by omega, by omega, ?_⟩⟩⟩
        · (repeat rw [upd_other (by omega)]); exact r0'
        · (repeat rw [upd_other (by omega)]); exact r1
        · rw [upd_other (by omega), upd_same, hnext]; rfl
      · have e3 : (id == 2) = false := neB (by omega)
        have e4 : (nx == id) = false := neB (by omega)
        have e10 : (nx + 1 == id) = false := neB (by omega)
        have e11 : (nx + 1 + 1 == id) = false := neB (by omega)
        simp only [push_cast, Nat.reduceBEq, Nat.reduceAdd, Nat.reduceEqDiff, reduceCtorEq, Nat.reduceLeDiff, Nat.reduceSub, Nat.reduceMul, Nat.reduceLT, Int.reduceEq, Int.reduceLT, Int.reduceLE, Int.reduceBEq, Int.reduceBNe, Int.reduceToNat, Int.reduceNeg, Int.reduceSub, Int.reduceAdd, r0, r2, hr, h, h4', hx, metaH, hwk, e2, e3, e4, e5, e6, e7, e8, e9, e10, e11, hrow, hb56]
        refine ⟨_, by omega, k + 1, nx + 1 + 1 + 1, _, _, rfl, by omega, rfl, ⟨by omega, ?_, ?_, upd_same _ _ _, .inr ⟨nx + 1 + 1, ?_, by omega, by omega, ?_⟩⟩⟩
        · (repeat rw [upd_other (by omega)]); exact r0'
        · (repeat rw [upd_other (by omega)]); exact r1
        · rw [hnext]; simp
        · rw [upd_other (by omega), upd_same, hnext, List.map_append]; rfl
    · have hfin := hfin (by omega)
      have hwn : IntKind.i64.wrap ((n : Int) + 1) = (n : Int) + 1 := by have := wrap_nat (k := n) (by omega); rw [this]; rfl
      rw [hfin] at row
      simp only [push_cast, Nat.reduceBEq, Nat.reduceAdd, Nat.reduceEqDiff, reduceCtorEq, Nat.reduceLeDiff, Nat.reduceSub, Nat.reduceMul, Nat.reduceLT, Int.reduceEq, Int.reduceLT, Int.reduceLE, Int.reduceBEq, Int.reduceBNe, Int.reduceToNat, Int.reduceNeg, Int.reduceSub, Int.reduceAdd, r0, hr, h, h4', hwn]
      exact ⟨_, by omega, n + 1, nx, v, H, rfl, by omega, rfl, ⟨nx3, r0', r1, r2', row⟩⟩
  · obtain rfl : n = 4 := by omega
    obtain ⟨nx3, r0, r1, r2, row⟩ := hM
    unfold whC at r2
    unfold zE5' at r1
    have v2 := nilR_view (H' := upd H 1 (some (.cells [.lit (.int .i64 s.log), .lit (.int .i64 s.next), .lit (.int .i64 s.seq), .lit (.slice none 0 0), v]))) row (fun j hj => upd_other (by omega))
    have hc1 := nilR_one row
    simp only [AV.isOne, Value.oneCell'] at hc1
    simp only [push_cast, Nat.reduceBEq, Nat.reduceAdd, Nat.reduceEqDiff, reduceCtorEq, Nat.reduceLeDiff, Nat.reduceSub, Nat.reduceMul, Nat.reduceLT, Int.reduceEq, Int.reduceLT, Int.reduceLE, Int.reduceBEq, Int.reduceBNe, Int.reduceToNat, Int.reduceNeg, Int.reduceSub, Int.reduceAdd, AV.view1] at v2
    simp only [push_cast, Nat.reduceBEq, Nat.reduceAdd, Nat.reduceEqDiff, reduceCtorEq, Nat.reduceLeDiff, Nat.reduceSub, Nat.reduceMul, Nat.reduceLT, Int.reduceEq, Int.reduceLT, Int.reduceLE, Int.reduceBEq, Int.reduceBNe, Int.reduceToNat, Int.reduceNeg, Int.reduceSub, Int.reduceAdd, r1, r2, hc1, v2]
    rfl
end Go.Proofs.Ytheanmfdfoefoaa
