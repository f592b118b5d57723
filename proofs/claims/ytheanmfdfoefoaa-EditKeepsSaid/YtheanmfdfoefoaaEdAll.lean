/- Edit: the map of a state's places. -/
import Derived.Test.YtheanmfdfoefoaaEdRel
import Derived.Test.YtheanmfdfoefoaaEdA
namespace Go.Proofs.Ytheanmfdfoefoaa
open Go Go.RowKit Hv
set_option linter.unusedSimpArgs false

theorem old_upd {H H1 : Hp} {n i : Nat} {o : Option AO} (h : ∀ j, j < n → H1 j = H j) (hi : n ≤ i) : ∀ j, j < n → upd H1 i o j = H j := fun j hj => by
  rw [upd_other (by omega)]; exact h j hj
theorem lv_at (s : StD) {i : Nat} (h : i < 4) : [AV.sl ((s.lv 0).map metaH), .sl ((s.lv 1).map metaH), .sl ((s.lv 2).map metaH), .sl ((s.lv 3).map metaH)][i]? = some (.sl ((s.lv i).map metaH)) := by
  obtain rfl | rfl | rfl | rfl : i = 0 ∨ i = 1 ∨ i = 2 ∨ i = 3 := by omega
  all_goals rfl
def pmA (es : List PlM) : List ME := es.map (Ent.me plA metaA)
theorem pm_push (es : List PlM) (l : Int) (m : MetaD) (c : Nat) : pmA es ++ [⟨.agg [.lit (.int .i64 l), .lit (.int .i64 m.file)], .agg [.lit (.int .i64 m.file), .lit (.int .i64 m.size), .lit (.string m.first), .lit (.string m.last)], c⟩] = pmA (es ++ [⟨⟨l, m.file⟩, m, c⟩]) := by
  simp [pmA, Ent.me, plA, plH, metaA, metaH]
/-- What all answers. -/
def AllPost (H : Hp) (n : Nat) (s : StD) (r : AV) (H' : Hp) (n' : Nat) : Prop :=
  ∃ id es clock, r = .mp id ∧ n ≤ id ∧ id < n' ∧ H' id = some (.map (pmA es) clock) ∧ MapOk es clock ∧ Rel es s ∧ ∀ j, j < n → H' j = H j
theorem placedTo_files (s : StD) : ∀ n, (placedTo s n).map (fun x => x.1.file) = ((List.range n).flatMap fun k => (s.lv k).map (·.file)) := by
  intro n
  induction n with
  | zero => rfl
  | succ n ih => simp [placedTo, lvP, List.range_succ, ih, Function.comp_def]
theorem placed_files {s : StD} (h : ((allS s).map (·.file)).Nodup) : ((placed s).map fun x => x.1.file).Nodup := by
  unfold placed
  rw [placedTo_files]
  simpa [allS, List.range_succ] using h
/-- A place that is still to come is none of those that are there. -/
theorem placed_next {s : StD} (h : ((placed s).map fun x => x.1.file).Nodup) {i k : Nat} (hi : i < 4) {x : MetaD} (hx : (s.lv i)[k]? = some x) {es : List PlM} (he : es.map kv = placedTo s i ++ lvP i ((s.lv i).take k)) : lookE es (⟨(i : Int), x.file⟩ : PlD) = none := by
  rw [lookE_none]
  intro y hy hk
  have hfile : y.key.file ∈ (placedTo s i ++ lvP i ((s.lv i).take k)).map fun x => x.1.file := by
    rw [← he, List.map_map]
    exact List.mem_map.2 ⟨y, hy, rfl⟩
  have hsp : ∃ r, placed s = placedTo s i ++ lvP i ((s.lv i).take k) ++ ((⟨(i : Int), x.file⟩, x) :: r) := by
    have hlv : s.lv i = (s.lv i).take k ++ x :: (s.lv i).drop (k + 1) := by
      obtain ⟨hlt, rfl⟩ := List.getElem?_eq_some_iff.1 hx
      rw [← List.drop_eq_getElem_cons hlt, List.take_append_drop]
    have hl : lvP i (s.lv i) = lvP i ((s.lv i).take k) ++ (⟨(i : Int), x.file⟩, x) :: lvP i ((s.lv i).drop (k + 1)) := by
      conv => lhs; rw [hlv]
      simp [lvP]
    have h4 : ∃ r, placed s = placedTo s i ++ lvP i (s.lv i) ++ r := by
      unfold placed
      obtain rfl | rfl | rfl | rfl : i = 0 ∨ i = 1 ∨ i = 2 ∨ i = 3 := by omega
      · exact ⟨lvP 1 (s.lv 1) ++ lvP 2 (s.lv 2) ++ lvP 3 (s.lv 3), by simp [placedTo]⟩
      · exact ⟨lvP 2 (s.lv 2) ++ lvP 3 (s.lv 3), by simp [placedTo]⟩
      · exact ⟨lvP 3 (s.lv 3), by simp [placedTo]⟩
      · exact ⟨[], by simp [placedTo]⟩
    obtain ⟨r, hr⟩ := h4
    exact ⟨lvP i ((s.lv i).drop (k + 1)) ++ r, by rw [hr, hl]; simp⟩
  obtain ⟨r, hr⟩ := hsp
  rw [hr, List.map_append, List.map_cons] at h
  have := (List.nodup_append.1 h).2.2 _ hfile x.file (by simp)
  rw [hk] at this
  exact this rfl
theorem placedTo_succ (s : StD) (i : Nat) : placedTo s (i + 1) = placedTo s i ++ lvP i (s.lv i) := rfl
set_option maxRecDepth 20000 in
set_option maxHeartbeats 4000000 in
theorem all_h {H : Hp} {n : Nat} (s : StD) (hf : ((placed s).map fun x => x.1.file).Nodup) (hl : ∀ i, i < 4 → (s.lv i).length ≤ 1000000) : HCalls Try.prog 60 [stH s] H n (AllPost H n s) := by
  refine hcallsC_of (rs := [.tmp 2]) ⟨[0, 1, 2, 3, 4, 5, 7, 10, 11, 12, 15, 16, 17, 18], [], [], [], [], []⟩ TOk mixed Try.func60 rfl rfl (by kernel_rfl) (by kernel_rfl) rfl ?_
  simp only [push_cast, Nat.reduceBEq, Nat.reduceAdd, Nat.reduceEqDiff, reduceCtorEq, Nat.reduceLeDiff, Nat.reduceSub, Nat.reduceMul, Nat.reduceLT, Int.reduceEq, Int.reduceLT, Int.reduceLE, Int.reduceBEq, Int.reduceBNe, Int.reduceToNat, Int.reduceNeg, Int.reduceSub, Int.reduceAdd, stH, nbq1_0 n]
  refine loopK (fun m s' => ∃ (i id nx : Nat) (es : List PlM) (clock : Nat) (H1 : Hp), i ≤ 4 ∧ n ≤ id ∧ id < nx ∧ H1 id = some (.map (pmA es) clock) ∧ MapOk es clock ∧ es.map kv = placedTo s i ∧ (∀ j, j < n → H1 j = H j) ∧ m = 4 - i ∧
    s' = ⟨[(3, .mp id), (10, .agg [AV.sl ((s.lv 0).map metaH), .sl ((s.lv 1).map metaH), .sl ((s.lv 2).map metaH), .sl ((s.lv 3).map metaH)]), (11, .lit (.int .i64 (i : Int)))], H1, nx⟩) _ [3, 10, 11] ⟨0, n + 1, n + 1 + 1, [], 0, _, by omega, by omega, by omega, upd_same _ _ _, MapOk.nil, rfl, old_upd (old_upd (fun _ _ => rfl) (Nat.le_refl _)) (by omega), rfl, rfl⟩ ?_
  rintro m _ ⟨i, id, nx, es, clock, H1, hi, hid, hnx, ho, hmo, hes, hold, rfl, rfl⟩
  by_cases h : i < 4
  · have hi4 : (i : Int) < 4 := by omega
    have hidx := lv_at s h
    have hw := wrap_nat (k := i) (by omega)
    have hli := hl i h
    simp only [push_cast, Nat.reduceBEq, Nat.reduceAdd, Nat.reduceEqDiff, reduceCtorEq, Nat.reduceLeDiff, Nat.reduceSub, Nat.reduceMul, Nat.reduceLT, Int.reduceEq, Int.reduceLT, Int.reduceLE, Int.reduceBEq, Int.reduceBNe, Int.reduceToNat, Int.reduceNeg, Int.reduceSub, Int.reduceAdd, hi4, hidx]
    refine loopK (fun m s' => ∃ (k id nx : Nat) (es : List PlM) (clock : Nat) (H1 : Hp), k ≤ (s.lv i).length ∧ n ≤ id ∧ id < nx ∧ H1 id = some (.map (pmA es) clock) ∧ MapOk es clock ∧ es.map kv = placedTo s i ++ lvP i ((s.lv i).take k) ∧ (∀ j, j < n → H1 j = H j) ∧ m = (s.lv i).length - k ∧
      s' = ⟨[(3, .mp id), (4, .lit (.int .i64 (i : Int))), (10, .agg [AV.sl ((s.lv 0).map metaH), .sl ((s.lv 1).map metaH), .sl ((s.lv 2).map metaH), .sl ((s.lv 3).map metaH)]), (11, .lit (.int .i64 (i : Int))), (15, .sl ((s.lv i).map metaH)), (16, .lit (.int .i64 ((s.lv i).length : Int))), (17, .lit (.int .i64 (k : Int)))], H1, nx⟩) _ [3, 4, 10, 11, 15, 16, 17] ⟨0, id, nx, es, clock, H1, by omega, hid, hnx, ho, hmo, by rw [hes]; simp [lvP], hold, rfl, rfl⟩ ?_
    clear ho hmo hes hold hid hnx
    rintro m _ ⟨k, id, nx, es, clock, H1, hk, hid, hnx, ho, hmo, hes, hold, rfl, rfl⟩
    by_cases hkl : k < (s.lv i).length
    · obtain ⟨x, hx⟩ : ∃ x, (s.lv i)[k]? = some x := ⟨_, List.getElem?_eq_getElem hkl⟩
      have hwk := wrap_nat (k := k) (by omega)
      have hne : (nx == id) = false := by rw [← Bool.not_eq_true, beq_iff_eq]; omega
      have hnew := placed_next hf h hx hes
      have hm : mfind (.agg [.lit (.int .i64 (i : Int)), .lit (.int .i64 x.file)]) (pmA es) 0 = some none := mfind_no (vA := metaA) keyOk_pl hnew
      simp only [push_cast, Nat.reduceBEq, Nat.reduceAdd, Nat.reduceEqDiff, reduceCtorEq, Nat.reduceLeDiff, Nat.reduceSub, Nat.reduceMul, Nat.reduceLT, Int.reduceEq, Int.reduceLT, Int.reduceLE, Int.reduceBEq, Int.reduceBNe, Int.reduceToNat, Int.reduceNeg, Int.reduceSub, Int.reduceAdd, hkl, hx, metaH, ho, hne, hm, hwk, pm_push]
      refine ⟨_, by omega, k + 1, id, nx + 1, es ++ [⟨⟨(i : Int), x.file⟩, x, clock⟩], clock + 1, _, by omega, hid, by omega, upd_same _ _ _, ?_, ?_, old_upd (old_upd (old_upd hold (by omega)) (by omega)) hid, rfl, rfl⟩
      · have := hmo.put (⟨(i : Int), x.file⟩ : PlD) x
        rw [put_new x hnew] at this
        exact this
      · rw [List.map_append, hes, List.take_add_one, hx, List.append_assoc]
        simp [lvP, kv]
    · have : (s.lv i).take k = s.lv i := List.take_of_length_le (by omega)
      rw [this, ← placedTo_succ] at hes
      simp only [push_cast, Nat.reduceBEq, Nat.reduceAdd, Nat.reduceEqDiff, reduceCtorEq, Nat.reduceLeDiff, Nat.reduceSub, Nat.reduceMul, Nat.reduceLT, Int.reduceEq, Int.reduceLT, Int.reduceLE, Int.reduceBEq, Int.reduceBNe, Int.reduceToNat, Int.reduceNeg, Int.reduceSub, Int.reduceAdd, hkl, hw]
      exact ⟨_, by omega, i + 1, id, nx, es, clock, H1, by omega, hid, hnx, ho, hmo, hes, hold, rfl, rfl⟩
  · obtain rfl : i = 4 := by omega
    have h44 : ¬ ((4 : Nat) : Int) < 4 := by omega
    simp only [push_cast, Nat.reduceBEq, Nat.reduceAdd, Nat.reduceEqDiff, reduceCtorEq, Nat.reduceLeDiff, Nat.reduceSub, Nat.reduceMul, Nat.reduceLT, Int.reduceEq, Int.reduceLT, Int.reduceLE, Int.reduceBEq, Int.reduceBNe, Int.reduceToNat, Int.reduceNeg, Int.reduceSub, Int.reduceAdd, h44]
    exact ⟨id, es, clock, rfl, hid, hnx, ho, hmo, by unfold Rel; rw [hes]; exact List.Perm.refl _, hold⟩
end Go.Proofs.Ytheanmfdfoefoaa
