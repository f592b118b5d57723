/- Edit: Whole, whose answer may be written in. -/
import Derived.Test.YtheanmfdfoefoaaEkWhP
namespace Go.Proofs.Ytheanmfdfoefoaa
open Go Go.RowKit Hv
set_option linter.unusedVariables false
set_option linter.unusedSimpArgs false
structure WhW (s : StD) (ta : Nat) (l : List AddD) (v : AV) (nx : Nat) (H : Hp) : Prop where
  nx3 : 3 ≤ nx
  r0 : H 0 = some (.cells (stCells s))
  r1 : H 1 = some (.cells zE5')
  r2 : H 2 = some (.cells (whC s v))
  row : (v = .lit (.slice none 0 0) ∧ l.map addH = []) ∨ ∃ id, v = .rw id 5 0 (l.map addH).length ∧ 3 ≤ id ∧ id < nx ∧ H id = some (.row true ta (l.map addH))
theorem noId_add (m : AddD) : ∀ c ∈ addH m, NoId c := by
  intro c hc
  simp only [addH, List.mem_cons, List.not_mem_nil, or_false] at hc
  rcases hc with rfl | rfl | rfl | rfl | rfl <;> exact .lit _
/-- An edit whose tables that come are a row of its own. -/
def WhR (r : AV) (H : Hp) (n : Nat) : Prop := ∃ (a b c : Int) (v : AV), r = .agg [.lit (.int .i64 a), .lit (.int .i64 b), .lit (.int .i64 c), .lit (.slice none 0 0), v] ∧ (v = .lit (.slice none 0 0) ∨ ∃ (id : Nat) (L : List (List AV)), v = .rw id 5 0 L.length ∧ id < n ∧ H id = some (.row true 93 L) ∧ L.length ≤ 4 * 100000 ∧ ∀ it ∈ L, it.length = 5 ∧ ∀ c ∈ it, NoId c)
set_option maxRecDepth 20000 in
set_option maxHeartbeats 16000000 in
theorem wholeW_h (s : StD) (hl : ∀ n, n < 4 → (s.lv n).length ≤ 100000) : HCalls Try.prog 39 [stH s] (fun _ => none) 0 WhR := by
  refine hcallsC_of (rs := [.cell 2 67]) ⟨[0, 1, 2, 3, 4, 5, 7, 16, 17, 18, 21, 22, 23, 24], [33], [], [], [], []⟩ TOk mixed Try.func39 rfl rfl (by kernel_rfl) (by kernel_rfl) rfl ?_
  simp only [push_cast, Nat.reduceBEq, Nat.reduceAdd, Nat.reduceEqDiff, reduceCtorEq, Nat.reduceLeDiff, Nat.reduceSub, Nat.reduceMul, Nat.reduceLT, Int.reduceEq, Int.reduceLT, Int.reduceLE, Int.reduceBEq, Int.reduceBNe, Int.reduceToNat, Int.reduceNeg, Int.reduceSub, Int.reduceAdd, stH]
  refine loopK (fun m x => ∃ (n nx : Nat) (v : AV) (H : Hp), x = ⟨[(1, .ptr 0 0), (2, .ptr 1 0), (3, .ptr 2 0), (16, .agg [.sl ((s.lv 0).map metaH), .sl ((s.lv 1).map metaH), .sl ((s.lv 2).map metaH), .sl ((s.lv 3).map metaH)]), (17, .lit (.int .i64 (n : Int)))], H, nx⟩ ∧ n ≤ 4 ∧ m = 4 - n ∧ WhW s 93 (wholeTo s n) v nx H) _ [1, 2, 3, 16, 17] (by exact ⟨0, 3, _, _, rfl, by omega, rfl, ⟨by omega, rfl, rfl, rfl, .inl ⟨rfl, rfl⟩⟩⟩) ?_
  rintro m _ ⟨n, nx, v, H, rfl, hn, rfl, hM⟩
  by_cases h4 : n < 4
  · have h4' : (n : Int) < 4 := by omega
    have hlv := lv_at s h4
    simp only [push_cast, Nat.reduceBEq, Nat.reduceAdd, Nat.reduceEqDiff, reduceCtorEq, Nat.reduceLeDiff, Nat.reduceSub, Nat.reduceMul, Nat.reduceLT, Int.reduceEq, Int.reduceLT, Int.reduceLE, Int.reduceBEq, Int.reduceBNe, Int.reduceToNat, Int.reduceNeg, Int.reduceSub, Int.reduceAdd, h4', hlv]
    refine loopK (fun m x => ∃ (k nx : Nat) (v : AV) (H : Hp), x = ⟨[(1, .ptr 0 0), (2, .ptr 1 0), (3, .ptr 2 0), (4, .lit (.int .i64 (n : Int))), (16, .agg [.sl ((s.lv 0).map metaH), .sl ((s.lv 1).map metaH), .sl ((s.lv 2).map metaH), .sl ((s.lv 3).map metaH)]), (17, .lit (.int .i64 (n : Int))), (21, .sl ((s.lv n).map metaH)), (22, .lit (.int .i64 ((s.lv n).length : Int))), (23, .lit (.int .i64 (k : Int)))], H, nx⟩ ∧ k ≤ (s.lv n).length ∧ m = (s.lv n).length - k ∧ WhW s 93 (wholeTo s n ++ ((s.lv n).take k).map fun m => ⟨(n : Int), m⟩) v nx H) _ [1, 2, 3, 4, 16, 17, 21, 22, 23] (by exact ⟨0, nx, v, H, rfl, by omega, rfl, by simpa using hM⟩) ?_
    clear hM
    rintro m _ ⟨k, nx, v, H, rfl, hk, rfl, ⟨nx3, r0, r1, r2, row⟩⟩
    obtain ⟨r, hr⟩ := lvl_at s h4
    have r0' := r0
    have r2' := r2
    unfold stCells at r0
    unfold whC at r2
    have hlen : (wholeTo s n ++ ((s.lv n).take k).map fun m => (⟨(n : Int), m⟩ : AddD)).length ≤ 500000 := by
      have h1 := wholeTo_len s hl n hn
      have := hl n h4
      rw [List.length_append, List.length_map, List.length_take]; omega
    have hnext : ∀ x, (s.lv n)[k]? = some x → wholeTo s n ++ ((s.lv n).take (k + 1)).map (fun m => (⟨(n : Int), m⟩ : AddD)) = (wholeTo s n ++ ((s.lv n).take k).map fun m => (⟨(n : Int), m⟩ : AddD)) ++ [⟨(n : Int), x⟩] := fun x hx => by
      rw [List.take_add_one, hx, List.map_append, ← List.append_assoc]; rfl
    have hfin : (s.lv n).length ≤ k → wholeTo s n ++ ((s.lv n).take k).map (fun m => (⟨(n : Int), m⟩ : AddD)) = wholeTo s (n + 1) := fun h => by
      rw [List.take_of_length_le h]; rfl
    generalize (wholeTo s n ++ ((s.lv n).take k).map fun m => (⟨(n : Int), m⟩ : AddD)) = out at row hlen hnext hfin
    by_cases h : k < (s.lv n).length
    · obtain ⟨x, hx⟩ : ∃ x, (s.lv n)[k]? = some x := ⟨_, List.getElem?_eq_getElem h⟩
      have hnext := hnext x hx
      have hwk := wrap_nat (k := k) (by have := hl n h4; omega)
      have hb56 : (out.length + 1) * 56 ≤ 140737488355328 := by omega
      have e2 : (nx == 2) = false := neB (by omega)
      have e5 : (nx + 1 == 2) = false := neB (by omega)
      have e6 : (nx + 1 + 1 == 2) = false := neB (by omega)
      have e7 : (nx == nx + 1) = false := neB (by omega)
      have e8 : (nx + 1 + 1 == nx + 1) = false := neB (by omega)
      have e9 : (nx + 1 == nx) = false := neB (by omega)
      rcases row with ⟨rfl, hnil⟩ | ⟨id, rfl, i3, ilt, hrow⟩
      · obtain rfl : out = [] := by simpa using hnil
        simp only [push_cast, Nat.reduceBEq, Nat.reduceAdd, Nat.reduceEqDiff, reduceCtorEq, Nat.reduceLeDiff, Nat.reduceSub, Nat.reduceMul, Nat.reduceLT, Int.reduceEq, Int.reduceLT, Int.reduceLE, Int.reduceBEq, Int.reduceBNe, Int.reduceToNat, Int.reduceNeg, Int.reduceSub, Int.reduceAdd, r0, r2, hr, h, h4', hx, metaH, hwk, e2, e5, e6, e7, e8, e9]
        refine ⟨_, by omega, k + 1, nx + 1 + 1 + 1, _, _, rfl, by omega, rfl, ⟨by omega, ?_, ?_, upd_same _ _ _, .inr ⟨nx + 1 + 1, by rw [hnext]; rfl, by omega, by omega, ?_⟩⟩⟩
        · (repeat rw [upd_other (by omega)]); exact r0'
        · (repeat rw [upd_other (by omega)]); exact r1
        · rw [upd_other (by omega), upd_same, hnext]; rfl
      · have e3 : (id == 2) = false := neB (by omega)
        have e4 : (nx == id) = false := neB (by omega)
        have e10 : (nx + 1 == id) = false := neB (by omega)
        have e11 : (nx + 1 + 1 == id) = false := neB (by omega)
        simp only [push_cast, Nat.reduceBEq, Nat.reduceAdd, Nat.reduceEqDiff, reduceCtorEq, Nat.reduceLeDiff, Nat.reduceSub, Nat.reduceMul, Nat.reduceLT, Int.reduceEq, Int.reduceLT, Int.reduceLE, Int.reduceBEq, Int.reduceBNe, Int.reduceToNat, Int.reduceNeg, Int.reduceSub, Int.reduceAdd, r0, r2, hr, h, h4', hx, metaH, hwk, e2, e3, e4, e5, e6, e7, e8, e9, e10, e11, hrow, hb56]
        refine ⟨_, by omega, k + 1, nx + 1 + 1 + 1, _, _, rfl, by omega, rfl, ⟨by omega, ?_, ?_, upd_same _ _ _, .inr ⟨nx + 1 + 1, ?_, by omega, by omega, ?_⟩⟩⟩
        · (repeat rw [upd_other (by omega)]); exact r0'
        · (repeat rw [upd_other (by omega)]); exact r1
        · rw [hnext]; simp
        · rw [upd_other (by omega), upd_same, hnext, List.map_append]; rfl
    · have hfin := hfin (by omega)
      have hwn : IntKind.i64.wrap ((n : Int) + 1) = (n : Int) + 1 := by have := wrap_nat (k := n) (by omega); rw [this]; rfl
      rw [hfin] at row
      simp only [push_cast, Nat.reduceBEq, Nat.reduceAdd, Nat.reduceEqDiff, reduceCtorEq, Nat.reduceLeDiff, Nat.reduceSub, Nat.reduceMul, Nat.reduceLT, Int.reduceEq, Int.reduceLT, Int.reduceLE, Int.reduceBEq, Int.reduceBNe, Int.reduceToNat, Int.reduceNeg, Int.reduceSub, Int.reduceAdd, r0, hr, h, h4', hwn]
      exact ⟨_, by omega, n + 1, nx, v, H, rfl, by omega, rfl, ⟨nx3, r0', r1, r2', row⟩⟩
  · obtain rfl : n = 4 := by omega
    obtain ⟨nx3, r0, r1, r2, row⟩ := hM
    unfold whC at r2
    unfold zE5' at r1
    have hc1 : AV.isOne v = true := by rcases row with ⟨rfl, _⟩ | ⟨id, rfl, _⟩ <;> rfl
    simp only [AV.isOne, Value.oneCell'] at hc1
    simp only [push_cast, Nat.reduceBEq, Nat.reduceAdd, Nat.reduceEqDiff, reduceCtorEq, Nat.reduceLeDiff, Nat.reduceSub, Nat.reduceMul, Nat.reduceLT, Int.reduceEq, Int.reduceLT, Int.reduceLE, Int.reduceBEq, Int.reduceBNe, Int.reduceToNat, Int.reduceNeg, Int.reduceSub, Int.reduceAdd, r1, r2, hc1]
    refine ⟨_, _, _, v, rfl, ?_⟩
    rcases row with ⟨h1, h2⟩ | ⟨id, h1, h2, h3, h4⟩
    · exact .inl h1
    · refine .inr ⟨id, _, h1, h3, by rw [upd_other (by omega)]; exact h4, by rw [List.length_map]; exact wholeTo_len s hl 4 (by omega), fun it hit => ?_⟩
      obtain ⟨x, _, rfl⟩ := List.mem_map.1 hit
      exact ⟨rfl, noId_add x⟩
end Go.Proofs.Ytheanmfdfoefoaa
