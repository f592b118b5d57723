/- The reference's DocFiles, by the walk over a heap. -/
import Derived.Test.YtheanmfdfoefoaaEdFiles
import Derived.Test.YtheanmfdfoefoaaEdRel
import Derived.Test.YtheanmfdfoefoaaRefPut
set_option linter.unusedVariables false
set_option linter.unusedSimpArgs false
namespace Go.Proofs.Ytheanmfdfoefoaa
open Go Go.RowKit Hv
set_option maxRecDepth 20000
set_option maxHeartbeats 8000000
/-- A cell or slot that holds nil or a row of its own. -/
def NilR (H : Hp) (lo nx : Nat) (t : Nat) (sz : Nat) (c : AV) (items : List (List AV)) : Prop := (c = .lit (.slice none 0 0) ∧ items = []) ∨ ∃ id, c = .rw id sz 0 items.length ∧ lo ≤ id ∧ id < nx ∧ H id = some (.row false t items)
theorem nilR_keep {H H' : Hp} {lo nx nx' t sz : Nat} {c : AV} {items : List (List AV)} (h : NilR H lo nx t sz c items) (hn : nx ≤ nx') (hh : ∀ j, lo ≤ j → j < nx → H' j = H j) : NilR H' lo nx' t sz c items := by
  rcases h with h | ⟨id, h1, h2, h3, h4⟩
  · exact .inl h
  · exact .inr ⟨id, h1, h2, by omega, by rw [hh id h2 h3]; exact h4⟩
theorem nilR_view0 {H : Hp} {lo nx t sz : Nat} {c : AV} {items : List (List AV)} (h : NilR H lo nx t sz c items) : AV.view1 H c = .sl items := by
  rcases h with ⟨rfl, rfl⟩ | ⟨id, rfl, h2, h3, h4⟩
  · rfl
  · unfold AV.view1
    simp only [h4, fits, piece, Nat.beq_refl, cond_true, Nat.ble_self_eq_true]
    rw [List.take_of_length_le (by simp)]
theorem nilR_view {H H' : Hp} {lo nx t sz : Nat} {c : AV} {items : List (List AV)} (h : NilR H lo nx t sz c items) (hh : ∀ j, lo ≤ j → H' j = H j) : AV.view1 (sealH H') c = .sl items := by
  rcases h with ⟨rfl, rfl⟩ | ⟨id, rfl, h2, h3, h4⟩
  · rfl
  · unfold AV.view1 sealH
    simp only [hh id h2, h4, sealO, fits, piece, Nat.beq_refl, cond_true, Nat.ble_self_eq_true]
    rw [List.take_of_length_le (by simp)]
theorem nilR_one {H : Hp} {lo nx t sz : Nat} {c : AV} {items : List (List AV)} (h : NilR H lo nx t sz c items) : AV.isOne c = true := by
  rcases h with ⟨rfl, rfl⟩ | ⟨id, rfl, h2, h3, h4⟩ <;> rfl
def stCells (s : StD) : List AV := [.lit (.int .i64 s.log), .lit (.int .i64 s.next), .lit (.int .i64 s.seq), .sl ((s.lv 0).map metaH), .sl ((s.lv 1).map metaH), .sl ((s.lv 2).map metaH), .sl ((s.lv 3).map metaH)]
theorem lvl_at (s : StD) {n : Nat} (hn : n < 4) : ∃ r, List.drop (3 + n) [.lit (.int .i64 s.log), .lit (.int .i64 s.next), .lit (.int .i64 s.seq), .sl ((s.lv 0).map metaH), .sl ((s.lv 1).map metaH), .sl ((s.lv 2).map metaH), .sl ((s.lv 3).map metaH)] = AV.sl ((s.lv n).map metaH) :: r := by
  obtain rfl | rfl | rfl | rfl : n = 0 ∨ n = 1 ∨ n = 2 ∨ n = 3 := by omega
  · exact ⟨_, rfl⟩
  · exact ⟨_, rfl⟩
  · exact ⟨_, rfl⟩
  · exact ⟨_, rfl⟩
/-- A number put in its order. -/
def insZ (l : List Int) (f : Int) : List Int := l.takeWhile (fun x => decide (x < f)) ++ f :: l.dropWhile (fun x => decide (x < f))
def insAll (l : List Int) : List Int := l.foldl insZ []
theorem insAll_snoc (l : List Int) (f : Int) : insAll (l ++ [f]) = insZ (insAll l) f := by unfold insAll; rw [List.foldl_append]; rfl
theorem insZ_perm (l : List Int) (f : Int) : (insZ l f).Perm (f :: l) := by
  unfold insZ
  have := List.perm_middle (a := f) (l₁ := l.takeWhile fun x => decide (x < f)) (l₂ := l.dropWhile fun x => decide (x < f))
  rwa [List.takeWhile_append_dropWhile] at this
theorem insZ_len (l : List Int) (f : Int) : (insZ l f).length = l.length + 1 := by rw [(insZ_perm l f).length_eq]; rfl
theorem insZ_sorted {l : List Int} (h : l.Pairwise fun x y => x ≤ y) (f : Int) : (insZ l f).Pairwise fun x y => x ≤ y := by
  have h0 : (l.takeWhile (fun x => decide (x < f)) ++ l.dropWhile (fun x => decide (x < f))).Pairwise fun x y => x ≤ y := by rw [List.takeWhile_append_dropWhile]; exact h
  obtain ⟨h1, h2, h3⟩ := List.pairwise_append.1 h0
  have hlt : ∀ x ∈ l.takeWhile (fun x => decide (x < f)), x < f := fun x hx => by
    have := List.all_eq_true.1 (List.all_takeWhile (l := l) (p := fun x => decide (x < f))) x hx
    simpa using this
  have hge : ∀ y ∈ l.dropWhile (fun x => decide (x < f)), f ≤ y := fun y hy => by
    cases hd : l.dropWhile (fun x => decide (x < f)) with
    | nil => rw [hd] at hy; cases hy
    | cons z r =>
      have hz : ¬ z < f := by
        have := List.head_dropWhile_not (fun x : Int => decide (x < f)) (l := l) (by rw [hd]; simp)
        simp only [hd, List.head_cons, decide_eq_false_iff_not] at this
        exact this
      rw [hd] at hy h2
      rcases List.mem_cons.1 hy with rfl | hy
      · omega
      · have := List.rel_of_pairwise_cons h2 hy; omega
  unfold insZ
  refine List.pairwise_append.2 ⟨h1, List.pairwise_cons.2 ⟨hge, h2⟩, fun a ha b hb => ?_⟩
  have := hlt a ha
  rcases List.mem_cons.1 hb with rfl | hb
  · omega
  · have := hge b hb; omega
theorem insAll_ok : ∀ (l : List Int) (acc : List Int), (acc.Pairwise fun x y => x ≤ y) → ((l.foldl insZ acc).Pairwise fun x y => x ≤ y) ∧ (l.foldl insZ acc).Perm (l ++ acc)
  | [], acc, h => ⟨h, List.Perm.refl _⟩
  | f :: l, acc, h => by
    obtain ⟨h1, h2⟩ := insAll_ok l (insZ acc f) (insZ_sorted h f)
    refine ⟨h1, h2.trans ?_⟩
    exact ((insZ_perm acc f).append_left l).trans List.perm_middle
theorem insAll_sort (l : List Int) : insAll l = sortZ l := by
  obtain ⟨h1, h2⟩ := insAll_ok l [] List.Pairwise.nil
  rw [List.append_nil] at h2
  exact sortZ_uniq h2 h1
theorem insAll_len (l : List Int) : (insAll l).length = l.length := by rw [insAll_sort]; exact (sortZ_perm l).length_eq
/-- The files of the levels below. -/
def filesTo (s : StD) : Nat → List Int
  | 0 => []
  | n + 1 => filesTo s n ++ (s.lv n).map (·.file)
theorem filesTo_len (s : StD) (hl : ∀ n, n < 4 → (s.lv n).length ≤ 100000) : ∀ n, n ≤ 4 → (filesTo s n).length ≤ n * 100000
  | 0, _ => by simp [filesTo]
  | n + 1, h => by
    have := filesTo_len s hl n (by omega)
    have := hl n (by omega)
    simp only [filesTo, List.length_append, List.length_map]; omega
theorem filesTo_all (s : StD) : insAll (filesTo s 4) = filesS s := by
  rw [insAll_sort]
  unfold filesS
  congr 1
  simp [filesTo, allS]
theorem docFiles_h (s : StD) (hl : ∀ n, n < 4 → (s.lv n).length ≤ 100000) : Hv.ACalls Try.prog 44 [stH s] (.sl ((filesS s).map intH)) := by
  refine acallsC_of (rs := [.tmp 2]) ⟨[0, 1, 2, 3, 4, 5, 6, 7, 9, 18, 40], [], [], [(11, [(1, [], []), (2, [], []), (3, [], []), (5, [], []), (6, [], []), (8, [], []), (9, [], []), (10, [], []), (0, [], []), (4, [], [0, 3, 1, 2]), (7, [], [4, 6, 0, 3, 5, 1, 2]), (11, [], [7, 10, 4, 6, 8, 9, 0, 3, 5, 1, 2]), (12, [], [11, 0, 1, 2, 3, 4, 5, 6, 7, 8, 9, 10])])], [11], []⟩ TOk mixed Try.func44 rfl rfl (by kernel_rfl) (by kernel_rfl) rfl (nid1 (noId_st s)) (noId_ints _) ?_
  simp only [push_cast, Nat.reduceBEq, Nat.reduceAdd, Nat.reduceEqDiff, reduceCtorEq, Nat.reduceLeDiff, Nat.reduceSub, Nat.reduceMul, Nat.reduceLT, Int.reduceEq, Int.reduceLT, Int.reduceLE, Int.reduceBEq, Int.reduceBNe, Int.reduceToNat, Int.reduceNeg, Int.reduceSub, Int.reduceAdd, stH]
  refine loopK (fun m x => ∃ (n nx id : Nat) (H : Hp), n ≤ 4 ∧ m = 4 - n ∧ 1 ≤ id ∧ id < nx ∧ H 0 = some (.cells (stCells s)) ∧ H id = some (.row false 3 ((insAll (filesTo s n)).map intH)) ∧ x = ⟨[(1, .ptr 0 0), (3, .rw id 1 0 (insAll (filesTo s n)).length), (4, .lit (.int .i64 (n : Int)))], H, nx⟩) _ [1, 3, 4] (by exact ⟨0, 3, 2, _, by omega, rfl, by omega, by omega, rfl, rfl, rfl⟩) ?_
  rintro m _ ⟨n, nx, id, H, hn, rfl, hid, hnx, r0, hrow, rfl⟩
  by_cases h4 : n < 4
  · have h4' : (n : Int) < 4 := by omega
    simp only [push_cast, Nat.reduceBEq, Nat.reduceAdd, Nat.reduceEqDiff, reduceCtorEq, Nat.reduceLeDiff, Nat.reduceSub, Nat.reduceMul, Nat.reduceLT, Int.reduceEq, Int.reduceLT, Int.reduceLE, Int.reduceBEq, Int.reduceBNe, Int.reduceToNat, Int.reduceNeg, Int.reduceSub, Int.reduceAdd, h4']
    refine loopK (fun m x => ∃ (k nx id c : Nat) (H : Hp), k ≤ (s.lv n).length ∧ m = (s.lv n).length - k ∧ 1 ≤ id ∧ id < nx ∧ H 0 = some (.cells (stCells s)) ∧ H id = some (.row false 3 ((insAll (filesTo s n ++ ((s.lv n).take k).map (·.file))).map intH)) ∧ c = (insAll (filesTo s n ++ ((s.lv n).take k).map (·.file))).length ∧ x = ⟨[(1, .ptr 0 0), (3, .rw id 1 0 c), (4, .lit (.int .i64 (n : Int))), (5, .lit (.int .i64 (k : Int)))], H, nx⟩) _ [1, 3, 4, 5] (by exact ⟨0, nx, id, _, H, by omega, rfl, hid, hnx, r0, by simpa using hrow, by simp, rfl⟩) ?_
    clear hrow r0 hnx hid
    rintro m _ ⟨k, nx, id, c, H, hk, rfl, hid, hnx, r0, hrow, rfl, rfl⟩
    obtain ⟨r, hr⟩ := lvl_at s h4
    have r0' := r0
    unfold stCells at r0
    have hlen : (insAll (filesTo s n ++ ((s.lv n).take k).map (·.file))).length ≤ 500000 := by
      rw [insAll_len, List.length_append, List.length_map, List.length_take]
      have := filesTo_len s hl n hn
      have := hl n h4
      omega
    have hnext : ∀ x, (s.lv n)[k]? = some x → insAll (filesTo s n ++ ((s.lv n).take (k + 1)).map (·.file)) = insZ (insAll (filesTo s n ++ ((s.lv n).take k).map (·.file))) x.file := fun x hx => by
      rw [List.take_add_one, hx, List.map_append, ← List.append_assoc, ← insAll_snoc]; rfl
    have hfin : (s.lv n).length ≤ k → insAll (filesTo s n ++ ((s.lv n).take k).map (·.file)) = insAll (filesTo s (n + 1)) := fun h => by
      rw [List.take_of_length_le h]; rfl
    generalize insAll (filesTo s n ++ ((s.lv n).take k).map (·.file)) = out at hrow hlen hnext hfin
    by_cases h : k < (s.lv n).length
    · obtain ⟨x, hx⟩ : ∃ x, (s.lv n)[k]? = some x := ⟨_, List.getElem?_eq_getElem h⟩
      have hnext := hnext x hx
      have hwk := wrap_nat (k := k) (by have := hl n h4; omega)
      simp only [push_cast, Nat.reduceBEq, Nat.reduceAdd, Nat.reduceEqDiff, reduceCtorEq, Nat.reduceLeDiff, Nat.reduceSub, Nat.reduceMul, Nat.reduceLT, Int.reduceEq, Int.reduceLT, Int.reduceLE, Int.reduceBEq, Int.reduceBNe, Int.reduceToNat, Int.reduceNeg, Int.reduceSub, Int.reduceAdd, r0, hr, h, h4', hx, metaH]
      refine cutK (fun y => ∃ i, i ≤ out.length ∧ out.takeWhile (fun y => decide (y < x.file)) = out.take i ∧ out.dropWhile (fun y => decide (y < x.file)) = out.drop i ∧ y = ⟨[(1, .ptr 0 0), (3, .rw id 1 0 out.length), (4, .lit (.int .i64 (n : Int))), (5, .lit (.int .i64 (k : Int))), (6, .lit (.int .i64 x.file)), (7, .lit (.int .i64 (i : Int)))], H, nx⟩) [1, 3, 4, 5, 6, 7] ?_ ?_
      · simp only [push_cast, Nat.reduceBEq, Nat.reduceAdd, Nat.reduceEqDiff, reduceCtorEq, Nat.reduceLeDiff, Nat.reduceSub, Nat.reduceMul, Nat.reduceLT, Int.reduceEq, Int.reduceLT, Int.reduceLE, Int.reduceBEq, Int.reduceBNe, Int.reduceToNat, Int.reduceNeg, Int.reduceSub, Int.reduceAdd]
        refine loopK (fun m y => ∃ i, i ≤ out.length ∧ m = out.length - i ∧ (out.take i).all (fun y => decide (y < x.file)) = true ∧ y = ⟨[(1, .ptr 0 0), (3, .rw id 1 0 out.length), (4, .lit (.int .i64 (n : Int))), (5, .lit (.int .i64 (k : Int))), (6, .lit (.int .i64 x.file)), (7, .lit (.int .i64 (i : Int)))], H, nx⟩) _ [1, 3, 4, 5, 6, 7] (by exact ⟨0, by omega, rfl, rfl, rfl⟩) ?_
        rintro m _ ⟨i, hi, rfl, hall, rfl⟩
        by_cases hi2 : i < out.length
        · obtain ⟨z, hz⟩ : ∃ z, out[i]? = some z := ⟨_, List.getElem?_eq_getElem hi2⟩
          have hzz : out[i] = z := by obtain ⟨_, e⟩ := List.getElem?_eq_some_iff.1 hz; exact e
          have hw := wrap_nat (k := i) (by omega)
          by_cases hlt : z < x.file
          · simp only [push_cast, Nat.reduceBEq, Nat.reduceAdd, Nat.reduceEqDiff, reduceCtorEq, Nat.reduceLeDiff, Nat.reduceSub, Nat.reduceMul, Nat.reduceLT, Int.reduceEq, Int.reduceLT, Int.reduceLE, Int.reduceBEq, Int.reduceBNe, Int.reduceToNat, Int.reduceNeg, Int.reduceSub, Int.reduceAdd, hi2, hrow, hz, intH, hlt, hw]
            exact ⟨_, by omega, i + 1, by omega, rfl, by rw [take_next hi2, List.all_append, hall, hzz]; simp [hlt], rfl⟩
          · obtain ⟨q1, q2⟩ := takeWhile_stop out i hall (fun _ => by rw [hzz]; simp [hlt]) hi
            simp only [push_cast, Nat.reduceBEq, Nat.reduceAdd, Nat.reduceEqDiff, reduceCtorEq, Nat.reduceLeDiff, Nat.reduceSub, Nat.reduceMul, Nat.reduceLT, Int.reduceEq, Int.reduceLT, Int.reduceLE, Int.reduceBEq, Int.reduceBNe, Int.reduceToNat, Int.reduceNeg, Int.reduceSub, Int.reduceAdd, hi2, hrow, hz, intH, hlt, hw]
            exact ⟨i, hi, q1, q2, rfl⟩
        · obtain ⟨q1, q2⟩ := takeWhile_stop out i hall (fun hq => absurd hq hi2) hi
          simp only [push_cast, Nat.reduceBEq, Nat.reduceAdd, Nat.reduceEqDiff, reduceCtorEq, Nat.reduceLeDiff, Nat.reduceSub, Nat.reduceMul, Nat.reduceLT, Int.reduceEq, Int.reduceLT, Int.reduceLE, Int.reduceBEq, Int.reduceBNe, Int.reduceToNat, Int.reduceNeg, Int.reduceSub, Int.reduceAdd, hi2]
          exact ⟨i, hi, q1, q2, rfl⟩
      · rintro _ ⟨i, hi, q1, q2, rfl⟩
        have hs1 : ((i : Int) - 0).toNat = i := by omega
        have hs2 : ((out.length : Int) - (i : Int)).toNat = out.length - i := by omega
        have e1 : (nx == id) = false := neB (by omega)
        have b1 : i * 8 ≤ 140737488355328 := by omega
        have b2 : (i + 1) * 8 ≤ 140737488355328 := by omega
        have b3 : (i + 1 + (out.length - i)) * 8 ≤ 140737488355328 := by omega
        have b4 : Nat.ble i out.length = true := Nat.ble_eq.symm ▸ hi
        have b5 : Nat.ble (i + (out.length - i)) out.length = true := Nat.ble_eq.symm ▸ (by omega : i + (out.length - i) ≤ out.length)
        have hins : insZ out x.file = out.take i ++ x.file :: out.drop i := by unfold insZ; rw [q1, q2]
        have t1 : List.take i (List.map intH out) = List.map intH (out.take i) := List.map_take.symm
        have t2 : List.take (out.length - i) (List.drop i (List.map intH out)) = List.map intH (out.drop i) := by
          rw [← List.map_drop, List.take_of_length_le (by simp)]
        have t3 : (out.take i).length = i := by rw [List.length_take]; omega
        have t4 : (out.drop i).length = out.length - i := List.length_drop
        have t5 : List.take out.length (List.map intH out) = List.map intH out := List.take_of_length_le (by simp)
        have b0 : Nat.ble 0 out.length = true := rfl
        have hs3 : ((out.length : Int) - 0).toNat = out.length := by omega
        have b6 : (0 + 1 + out.length) * 8 ≤ 140737488355328 := by omega
        have ih1 : ∀ z, (intH z).length = 1 := fun _ => rfl
        have ih2 : ∀ z, (intH z).all AV.isOne = true := fun _ => rfl
        have e2 : (nx + 1 == id) = false := neB (by omega)
        have e3 : (nx + 1 + 1 == id) = false := neB (by omega)
        have e4 : (nx == nx + 1) = false := neB (by omega)
        have e5 : (nx + 1 == nx + 1 + 1) = false := neB (by omega)
        have e6 : (nx + 1 == nx) = false := neB (by omega)
        rcases Nat.eq_zero_or_pos i with rfl | hi0
        · simp only [push_cast, Nat.reduceBEq, Nat.reduceAdd, Nat.reduceEqDiff, reduceCtorEq, Nat.reduceLeDiff, Nat.reduceSub, Nat.reduceMul, Nat.reduceLT, Int.reduceEq, Int.reduceLT, Int.reduceLE, Int.reduceBEq, Int.reduceBNe, Int.reduceToNat, Int.reduceNeg, Int.reduceSub, Int.reduceAdd, hrow, hi, hs1, hs2, hs3, List.not_mem_nil, false_implies, implies_true, e1, e2, e3, e4, e5, e6, b0, b6, t5, ih1, ih2, hwk]
          refine ⟨_, by omega, k + 1, nx + 1 + 1 + 1 + 1, nx + 1 + 1 + 1, _, _, by omega, rfl, by omega, by omega, ?_, ?_, by rw [hnext, insZ_len, Nat.add_comm], rfl⟩
          · (repeat rw [upd_other (by omega)]); exact r0'
          · rw [upd_same, hnext, hins]; rfl
        · have hb0 : (i == 0) = false := neB (by omega)
          have hhl : headLen (out.map intH) = 1 := by
            cases out with
            | nil => simp at hi; omega
            | cons a l => rfl
          unfold headLen at hhl
          simp only [push_cast, Nat.reduceBEq, Nat.reduceAdd, Nat.reduceEqDiff, reduceCtorEq, Nat.reduceLeDiff, Nat.reduceSub, Nat.reduceMul, Nat.reduceLT, Int.reduceEq, Int.reduceLT, Int.reduceLE, Int.reduceBEq, Int.reduceBNe, Int.reduceToNat, Int.reduceNeg, Int.reduceSub, Int.reduceAdd, hrow, hi, hs1, hs2, List.not_mem_nil, false_implies, implies_true, e1, e2, e3, e4, e5, e6, t1, t2, t3, t4, ih1, ih2, List.length_append, b1, b2, b3, b4, b5, hb0, hhl, hwk]
          refine ⟨_, by omega, k + 1, nx + 1 + 1 + 1 + 1, nx + 1 + 1 + 1, _, _, by omega, rfl, by omega, by omega, ?_, ?_, by rw [hnext, insZ_len]; omega, rfl⟩
          · (repeat rw [upd_other (by omega)]); exact r0'
          · rw [upd_same, hnext, hins, List.map_append, List.map_cons, List.append_assoc]; rfl
    · have hfin := hfin (by omega)
      have hwn : IntKind.i64.wrap ((n : Int) + 1) = (n : Int) + 1 := by have := wrap_nat (k := n) (by omega); rw [this]; rfl
      rw [hfin] at hrow
      simp only [push_cast, Nat.reduceBEq, Nat.reduceAdd, Nat.reduceEqDiff, reduceCtorEq, Nat.reduceLeDiff, Nat.reduceSub, Nat.reduceMul, Nat.reduceLT, Int.reduceEq, Int.reduceLT, Int.reduceLE, Int.reduceBEq, Int.reduceBNe, Int.reduceToNat, Int.reduceNeg, Int.reduceSub, Int.reduceAdd, r0, hr, h, h4', hwn, hfin]
      exact ⟨_, by omega, n + 1, nx, id, H, by omega, rfl, hid, hnx, r0', hrow, rfl⟩
  · obtain rfl : n = 4 := by omega
    rw [filesTo_all] at hrow
    have t5 : List.take (filesS s).length (List.map intH (filesS s)) = List.map intH (filesS s) := List.take_of_length_le (by simp)
    simp only [push_cast, Nat.reduceBEq, Nat.reduceAdd, Nat.reduceEqDiff, reduceCtorEq, Nat.reduceLeDiff, Nat.reduceSub, Nat.reduceMul, Nat.reduceLT, Int.reduceEq, Int.reduceLT, Int.reduceLE, Int.reduceBEq, Int.reduceBNe, Int.reduceToNat, Int.reduceNeg, Int.reduceSub, Int.reduceAdd, filesTo_all, hrow, t5]
end Go.Proofs.Ytheanmfdfoefoaa
