/- Chapter 17's statements: EditNumbers, by the walk over a heap. -/
import Derived.Test.YtheanmfdfoefoaaEdLaws
import Derived.Test.YtheanmfdfoefoaaEdElems
set_option linter.unusedVariables false
namespace Go.Proofs.Ytheanmfdfoefoaa
open Go Go.RowKit Hv
set_option linter.unusedSimpArgs false
set_option maxRecDepth 20000
set_option maxHeartbeats 8000000

/-- The numbers of an edit alone. -/
def numE (e : EdD) : EdD := ⟨e.log, e.next, e.seq, [], []⟩
def numS (a b c : Int) : StD := ⟨a, b, c, fun _ => []⟩
theorem right_numE (e : EdD) : rightB (numE e) = !(decide (e.log < -1) || e.log == 0 || decide (1000000 < e.log) || decide (e.next < -1) || e.next == 0 || decide (1000000 < e.next) || decide (e.seq < -1) || decide (72057594037927935 < e.seq)) := by
  show (numsB e && true && true && true && true) = _
  simp only [Bool.and_true]
  rfl
theorem apply_numE (a b c : Int) (e : EdD) : docApply (numS a b c) (numE e) = if rightB (numE e) = false then (noS, 2) else if badB (numS a b c) (numE e) = true then (noS, 1) else (numS (told e.log a) (told e.next b) (told e.seq c), 0) := rfl
theorem files_numS (a b c : Int) : filesS (numS a b c) = [] := by
  have h : (allS (numS a b c)).map (·.file) = [] := rfl
  unfold filesS sortZ
  rw [h]; exact List.mergeSort_nil
theorem rightN_h (e : EdD) : Hv.ACalls Try.prog 38 [edH (numE e)] (.lit (.bool (rightB (numE e)))) := by
  refine acallsC_of (rs := [.tmp 2]) ⟨[0, 1, 2, 3, 4, 54, 59, 95, 100, 128], [], [], []⟩ TOk mixed Try.func38 rfl rfl (by kernel_rfl) (by kernel_rfl) rfl (nid1 (noId_ed _)) (.lit _) ?_
  rw [right_numE]
  by_cases h0 : e.log < -1
  · simp only [push_cast, Nat.reduceBEq, Nat.reduceAdd, Nat.reduceEqDiff, reduceCtorEq, Nat.reduceLeDiff, Nat.reduceSub, Nat.reduceMul, Nat.reduceLT, Int.reduceEq, Int.reduceLT, Int.reduceLE, Int.reduceBEq, Int.reduceBNe, Int.reduceToNat, Int.reduceNeg, Int.reduceSub, Int.reduceAdd, edH, numE, h0]
  by_cases h1 : e.log = 0
  · have q1 : (e.log == 0) = true := by simpa using h1
    simp only [push_cast, Nat.reduceBEq, Nat.reduceAdd, Nat.reduceEqDiff, reduceCtorEq, Nat.reduceLeDiff, Nat.reduceSub, Nat.reduceMul, Nat.reduceLT, Int.reduceEq, Int.reduceLT, Int.reduceLE, Int.reduceBEq, Int.reduceBNe, Int.reduceToNat, Int.reduceNeg, Int.reduceSub, Int.reduceAdd, edH, numE, h0, q1]
  have q1 : (e.log == 0) = false := by simpa using h1
  by_cases h2 : 1000000 < e.log
  · simp only [push_cast, Nat.reduceBEq, Nat.reduceAdd, Nat.reduceEqDiff, reduceCtorEq, Nat.reduceLeDiff, Nat.reduceSub, Nat.reduceMul, Nat.reduceLT, Int.reduceEq, Int.reduceLT, Int.reduceLE, Int.reduceBEq, Int.reduceBNe, Int.reduceToNat, Int.reduceNeg, Int.reduceSub, Int.reduceAdd, edH, numE, h0, q1, h2]
  by_cases h3 : e.next < -1
  · simp only [push_cast, Nat.reduceBEq, Nat.reduceAdd, Nat.reduceEqDiff, reduceCtorEq, Nat.reduceLeDiff, Nat.reduceSub, Nat.reduceMul, Nat.reduceLT, Int.reduceEq, Int.reduceLT, Int.reduceLE, Int.reduceBEq, Int.reduceBNe, Int.reduceToNat, Int.reduceNeg, Int.reduceSub, Int.reduceAdd, edH, numE, h0, q1, h2, h3]
  by_cases h4 : e.next = 0
  · have q4 : (e.next == 0) = true := by simpa using h4
    simp only [push_cast, Nat.reduceBEq, Nat.reduceAdd, Nat.reduceEqDiff, reduceCtorEq, Nat.reduceLeDiff, Nat.reduceSub, Nat.reduceMul, Nat.reduceLT, Int.reduceEq, Int.reduceLT, Int.reduceLE, Int.reduceBEq, Int.reduceBNe, Int.reduceToNat, Int.reduceNeg, Int.reduceSub, Int.reduceAdd, edH, numE, h0, q1, h2, h3, q4]
  have q4 : (e.next == 0) = false := by simpa using h4
  by_cases h5 : 1000000 < e.next
  · simp only [push_cast, Nat.reduceBEq, Nat.reduceAdd, Nat.reduceEqDiff, reduceCtorEq, Nat.reduceLeDiff, Nat.reduceSub, Nat.reduceMul, Nat.reduceLT, Int.reduceEq, Int.reduceLT, Int.reduceLE, Int.reduceBEq, Int.reduceBNe, Int.reduceToNat, Int.reduceNeg, Int.reduceSub, Int.reduceAdd, edH, numE, h0, q1, h2, h3, q4, h5]
  by_cases h6 : e.seq < -1
  · simp only [push_cast, Nat.reduceBEq, Nat.reduceAdd, Nat.reduceEqDiff, reduceCtorEq, Nat.reduceLeDiff, Nat.reduceSub, Nat.reduceMul, Nat.reduceLT, Int.reduceEq, Int.reduceLT, Int.reduceLE, Int.reduceBEq, Int.reduceBNe, Int.reduceToNat, Int.reduceNeg, Int.reduceSub, Int.reduceAdd, edH, numE, h0, q1, h2, h3, q4, h5, h6]
  by_cases h7 : 72057594037927935 < e.seq
  · simp only [push_cast, Nat.reduceBEq, Nat.reduceAdd, Nat.reduceEqDiff, reduceCtorEq, Nat.reduceLeDiff, Nat.reduceSub, Nat.reduceMul, Nat.reduceLT, Int.reduceEq, Int.reduceLT, Int.reduceLE, Int.reduceBEq, Int.reduceBNe, Int.reduceToNat, Int.reduceNeg, Int.reduceSub, Int.reduceAdd, edH, numE, h0, q1, h2, h3, q4, h5, h6, h7]
  simp only [push_cast, Nat.reduceBEq, Nat.reduceAdd, Nat.reduceEqDiff, reduceCtorEq, Nat.reduceLeDiff, Nat.reduceSub, Nat.reduceMul, Nat.reduceLT, Int.reduceEq, Int.reduceLT, Int.reduceLE, Int.reduceBEq, Int.reduceBNe, Int.reduceToNat, Int.reduceNeg, Int.reduceSub, Int.reduceAdd, edH, numE, h0, q1, h2, h3, q4, h5, h6, h7]
  refine loopK (fun n x => n = 0 ∧ x = ⟨[(1, .ptr 0 0), (3, .lit (.int .i64 0))], upd (fun _ => none) 0 (some (.cells [.lit (.int .i64 e.log), .lit (.int .i64 e.next), .lit (.int .i64 e.seq), .sl [], .sl []])), 1⟩) _ [1, 3] (by exact ⟨rfl, rfl⟩) ?_
  rintro n _ ⟨rfl, rfl⟩
  simp only [push_cast, Nat.reduceBEq, Nat.reduceAdd, Nat.reduceEqDiff, reduceCtorEq, Nat.reduceLeDiff, Nat.reduceSub, Nat.reduceMul, Nat.reduceLT, Int.reduceEq, Int.reduceLT, Int.reduceLE, Int.reduceBEq, Int.reduceBNe, Int.reduceToNat, Int.reduceNeg, Int.reduceSub, Int.reduceAdd]
  refine loopK (fun n x => n = 0 ∧ x = ⟨[(1, .ptr 0 0), (4, .lit (.int .i64 0))], upd (fun _ => none) 0 (some (.cells [.lit (.int .i64 e.log), .lit (.int .i64 e.next), .lit (.int .i64 e.seq), .sl [], .sl []])), 1⟩) _ [1, 4] (by exact ⟨rfl, rfl⟩) ?_
  rintro n _ ⟨rfl, rfl⟩
  simp only [push_cast, Nat.reduceBEq, Nat.reduceAdd, Nat.reduceEqDiff, reduceCtorEq, Nat.reduceLeDiff, Nat.reduceSub, Nat.reduceMul, Nat.reduceLT, Int.reduceEq, Int.reduceLT, Int.reduceLE, Int.reduceBEq, Int.reduceBNe, Int.reduceToNat, Int.reduceNeg, Int.reduceSub, Int.reduceAdd]
theorem noId_edits (row : List EdD) : NoId (.sl (row.map edL)) := by
  rw [noId_sl]
  intro it hit
  obtain ⟨e, _, rfl⟩ := List.mem_map.1 hit
  intro c hc
  simp only [edL, List.mem_cons, List.not_mem_nil, or_false] at hc
  rcases hc with rfl | rfl | rfl | rfl | rfl
  · exact .lit _
  · exact .lit _
  · exact .lit _
  · exact noId_pls _
  · exact noId_adds _
theorem numS_wf {a b c : Int} (h : 0 ≤ a ∧ 0 ≤ b ∧ 0 ≤ c) : Wf0 (numS a b c) := { empty_wf0 with num := h }
theorem numS_len (a b c : Int) : ∀ i, i < 4 → ((numS a b c).lv i).length ≤ 100000 := fun _ _ => Nat.zero_le _
theorem num_ok {a b c A B C : Int} {e : EdD} (h : 0 ≤ a ∧ 0 ≤ b ∧ 0 ≤ c) (hb : ((decide (0 ≤ e.log) && decide (e.log < a)) || (decide (0 ≤ e.next) && decide (e.next < b)) || (decide (0 ≤ e.seq) && decide (e.seq < c))) = false) (eA : told e.log a = A) (eB : told e.next b = B) (eC : told e.seq c = C) :
    (¬ A < a ∧ (if a < e.log then e.log else a) = A) ∧ (¬ B < b ∧ (if b < e.next then e.next else b) = B) ∧ (¬ C < c ∧ (if c < e.seq then e.seq else c) = C) := by
  unfold told at eA eB eC
  simp only [Bool.or_eq_false_iff, Bool.and_eq_false_iff, decide_eq_false_iff_not] at hb
  refine ⟨⟨?_, ?_⟩, ⟨?_, ?_⟩, ?_, ?_⟩ <;> (repeat' split at eA) <;> (repeat' split at eB) <;> (repeat' split at eC) <;> (try split) <;> omega
theorem EditNumbers_h (row : List EdD) : Hv.ACalls Try.prog 9 [.sl (row.map edL)] (.lit (.bool true)) := by
  refine acallsC_of (rs := [.tmp 2]) ⟨[0, 2, 3, 4, 5, 6, 7, 8, 10, 19, 36, 76, 131], [], [], [(9, [(0, [], []), (1, [], []), (2, [0], [1]), (3, [], [0, 2, 1]), (4, [], []), (5, [], []), (6, [], []), (7, [0, 1], []), (8, [], [7, 5, 3, 0, 1, 2, 4]), (9, [], [6, 8, 0, 1, 2, 3, 4, 5, 7])])]⟩ TOk mixed Try.func9 rfl rfl (by kernel_rfl) (by kernel_rfl) rfl (nid1 (noId_edits row)) (.lit _) ?_
  simp only [push_cast, Nat.reduceBEq, Nat.reduceAdd, Nat.reduceEqDiff, reduceCtorEq, Nat.reduceLeDiff, Nat.reduceSub, Nat.reduceMul, Nat.reduceLT, Int.reduceEq, Int.reduceLT, Int.reduceLE, Int.reduceBEq, Int.reduceBNe, Int.reduceToNat, Int.reduceNeg, Int.reduceSub, Int.reduceAdd]
  refine callK edits_h ?_
  simp only [push_cast, Nat.reduceBEq, Nat.reduceAdd, Nat.reduceEqDiff, reduceCtorEq, Nat.reduceLeDiff, Nat.reduceSub, Nat.reduceMul, Nat.reduceLT, Int.reduceEq, Int.reduceLT, Int.reduceLE, Int.reduceBEq, Int.reduceBNe, Int.reduceToNat, Int.reduceNeg, Int.reduceSub, Int.reduceAdd]
  refine loopK (fun n x => ∃ (k : Nat) (a b c : Int) (v : AV) (nx : Nat) (H : Hp), x = ⟨[(0, .sl (row.map edL)), (3, .ptr 0 0), (4, .lit (.int .i64 (k : Int)))], H, nx⟩ ∧ n = row.length - k ∧ k ≤ row.length ∧ k ≤ 40 ∧ 1 ≤ nx ∧ (0 ≤ a ∧ 0 ≤ b ∧ 0 ≤ c) ∧
    H 0 = some (.cells [.lit (.int .i64 a), .lit (.int .i64 b), .lit (.int .i64 c), v, v, v, v]) ∧ (v = .lit (.slice none 0 0) ∨ v = .sl [])) _ [0, 3, 4] (by exact ⟨0, 1, 1, 0, _, 1, _, rfl, rfl, by omega, by omega, by omega, by decide, rfl, .inl rfl⟩) ?_
  rintro n _ ⟨k, a, b, c, v, nx, H, rfl, rfl, hk, hk40, hnx, habc, h0, hv⟩
  by_cases h : k < row.length
  · by_cases h4 : k < 40
    · obtain ⟨e, he⟩ : ∃ e, row[k]? = some e := ⟨_, List.getElem?_eq_getElem h⟩
      have hw := wrap_nat (k := k) (by omega)
      have h4' : (k : Int) < 40 := by omega
      have hn0 : (nx == 0) = false := by rw [← Bool.not_eq_true, beq_iff_eq]; omega
      have hto := to_h (numE e) (Nat.zero_le _) (Nat.zero_le _)
      have hA := apply_h (numS a b c) (numE e) (numS_wf habc) (fun _ _ => Nat.zero_le _)
      rw [apply_numE] at hA
      have hri := rightN_h e
      have hn1 : (nx + 1 == 0) = false := by simp
      obtain ⟨P1, hP1⟩ : ∃ b, decide (0 ≤ e.log) = b := ⟨_, rfl⟩
      obtain ⟨Q1, hQ1⟩ : ∃ b, decide (e.log < a) = b := ⟨_, rfl⟩
      obtain ⟨P2, hP2⟩ : ∃ b, decide (0 ≤ e.next) = b := ⟨_, rfl⟩
      obtain ⟨Q2, hQ2⟩ : ∃ t, decide (e.next < b) = t := ⟨_, rfl⟩
      obtain ⟨P3, hP3⟩ : ∃ b, decide (0 ≤ e.seq) = b := ⟨_, rfl⟩
      obtain ⟨Q3, hQ3⟩ : ∃ b, decide (e.seq < c) = b := ⟨_, rfl⟩
      have hbE : badB (numS a b c) (numE e) = ((P1 && Q1) || (P2 && Q2) || (P3 && Q3)) := by rw [← hP1, ← hQ1, ← hP2, ← hQ2, ← hP3, ← hQ3]; rfl
      have hF : ∀ a b c, 0 ≤ a ∧ 0 ≤ b ∧ 0 ≤ c → Hv.ACalls Try.prog 32 [stH (numS a b c)] (.sl []) := fun a b c h => by
        have := files_h (numS a b c) (List.nodup_nil) (numS_len a b c)
        rw [files_numS] at this
        exact this
      · simp only [push_cast, Nat.reduceBEq, Nat.reduceAdd, Nat.reduceEqDiff, reduceCtorEq, Nat.reduceLeDiff, Nat.reduceSub, Nat.reduceMul, Nat.reduceLT, Int.reduceEq, Int.reduceLT, Int.reduceLE, Int.reduceBEq, Int.reduceBNe, Int.reduceToNat, Int.reduceNeg, Int.reduceSub, Int.reduceAdd, h, h4', he, h0, edL, hn0]
        refine callD hto ?_
        simp only [push_cast, Nat.reduceBEq, Nat.reduceAdd, Nat.reduceEqDiff, reduceCtorEq, Nat.reduceLeDiff, Nat.reduceSub, Nat.reduceMul, Nat.reduceLT, Int.reduceEq, Int.reduceLT, Int.reduceLE, Int.reduceBEq, Int.reduceBNe, Int.reduceToNat, Int.reduceNeg, Int.reduceSub, Int.reduceAdd, h0, hn0, edH, numE]
        cases hr : rightB (numE e) with
        | false =>
          rw [hr, if_pos rfl] at hA
          rw [hr] at hri
          refine callD (by rcases hv with rfl | rfl <;> exact hA) ?_
          simp only [push_cast, Nat.reduceBEq, Nat.reduceAdd, Nat.reduceEqDiff, reduceCtorEq, Nat.reduceLeDiff, Nat.reduceSub, Nat.reduceMul, Nat.reduceLT, Int.reduceEq, Int.reduceLT, Int.reduceLE, Int.reduceBEq, Int.reduceBNe, Int.reduceToNat, Int.reduceNeg, Int.reduceSub, Int.reduceAdd, h0, hn0, hn1, stH, noS, nbq1_0 nx, nbq0_1 nx]
          refine callK hri ?_
          simp only [push_cast, Nat.reduceBEq, Nat.reduceAdd, Nat.reduceEqDiff, reduceCtorEq, Nat.reduceLeDiff, Nat.reduceSub, Nat.reduceMul, Nat.reduceLT, Int.reduceEq, Int.reduceLT, Int.reduceLE, Int.reduceBEq, Int.reduceBNe, Int.reduceToNat, Int.reduceNeg, Int.reduceSub, Int.reduceAdd, h0, hn0, hn1, hw, nbq1_0 nx, nbq0_1 nx]
          exact ⟨_, by omega, k + 1, a, b, c, _, nx + 1 + 1, _, rfl, rfl, by omega, by omega, by omega, habc, (by simp only [upd_at, beqE, hn0, hn1, cond_false]; exact h0), hv⟩
        | true =>
          rw [hr, if_neg (by decide), hbE] at hA
          rw [hr] at hri
          cases hB : ((P1 && Q1) || (P2 && Q2) || (P3 && Q3)) with
          | true =>
            rw [hB, if_pos rfl] at hA
            refine callD (by rcases hv with rfl | rfl <;> exact hA) ?_
            simp only [push_cast, Nat.reduceBEq, Nat.reduceAdd, Nat.reduceEqDiff, reduceCtorEq, Nat.reduceLeDiff, Nat.reduceSub, Nat.reduceMul, Nat.reduceLT, Int.reduceEq, Int.reduceLT, Int.reduceLE, Int.reduceBEq, Int.reduceBNe, Int.reduceToNat, Int.reduceNeg, Int.reduceSub, Int.reduceAdd, h0, hn0, hn1, stH, noS, nbq1_0 nx, nbq0_1 nx]
            refine callK hri ?_
            · clear hA hto
              cases P1 with
              | false =>
                cases P2 with
                | false =>
                  cases P3 with
                  | false =>
                    simp at hB
                  | true =>
                    cases Q3 with
                    | false =>
                      simp at hB
                    | true =>
                      simp only [push_cast, Nat.reduceBEq, Nat.reduceAdd, Nat.reduceEqDiff, reduceCtorEq, Nat.reduceLeDiff, Nat.reduceSub, Nat.reduceMul, Nat.reduceLT, Int.reduceEq, Int.reduceLT, Int.reduceLE, Int.reduceBEq, Int.reduceBNe, Int.reduceToNat, Int.reduceNeg, Int.reduceSub, Int.reduceAdd, h0, hn0, hn1, hw, nbq1_0 nx, nbq0_1 nx, hP1, hP2, hP3, hQ3]
                      exact ⟨_, by omega, k + 1, a, b, c, _, nx + 1 + 1, _, rfl, rfl, by omega, by omega, by omega, habc, (by simp only [upd_at, beqE, hn0, hn1, cond_false]; exact h0), hv⟩
                | true =>
                  cases Q2 with
                  | false =>
                    cases P3 with
                    | false =>
                      simp at hB
                    | true =>
                      cases Q3 with
                      | false =>
                        simp at hB
                      | true =>
                        simp only [push_cast, Nat.reduceBEq, Nat.reduceAdd, Nat.reduceEqDiff, reduceCtorEq, Nat.reduceLeDiff, Nat.reduceSub, Nat.reduceMul, Nat.reduceLT, Int.reduceEq, Int.reduceLT, Int.reduceLE, Int.reduceBEq, Int.reduceBNe, Int.reduceToNat, Int.reduceNeg, Int.reduceSub, Int.reduceAdd, h0, hn0, hn1, hw, nbq1_0 nx, nbq0_1 nx, hP1, hP2, hQ2, hP3, hQ3]
                        exact ⟨_, by omega, k + 1, a, b, c, _, nx + 1 + 1, _, rfl, rfl, by omega, by omega, by omega, habc, (by simp only [upd_at, beqE, hn0, hn1, cond_false]; exact h0), hv⟩
                  | true =>
                    simp only [push_cast, Nat.reduceBEq, Nat.reduceAdd, Nat.reduceEqDiff, reduceCtorEq, Nat.reduceLeDiff, Nat.reduceSub, Nat.reduceMul, Nat.reduceLT, Int.reduceEq, Int.reduceLT, Int.reduceLE, Int.reduceBEq, Int.reduceBNe, Int.reduceToNat, Int.reduceNeg, Int.reduceSub, Int.reduceAdd, h0, hn0, hn1, hw, nbq1_0 nx, nbq0_1 nx, hP1, hP2, hQ2]
                    exact ⟨_, by omega, k + 1, a, b, c, _, nx + 1 + 1, _, rfl, rfl, by omega, by omega, by omega, habc, (by simp only [upd_at, beqE, hn0, hn1, cond_false]; exact h0), hv⟩
              | true =>
                cases Q1 with
                | false =>
                  cases P2 with
                  | false =>
                    cases P3 with
                    | false =>
                      simp at hB
                    | true =>
                      cases Q3 with
                      | false =>
                        simp at hB
                      | true =>
                        simp only [push_cast, Nat.reduceBEq, Nat.reduceAdd, Nat.reduceEqDiff, reduceCtorEq, Nat.reduceLeDiff, Nat.reduceSub, Nat.reduceMul, Nat.reduceLT, Int.reduceEq, Int.reduceLT, Int.reduceLE, Int.reduceBEq, Int.reduceBNe, Int.reduceToNat, Int.reduceNeg, Int.reduceSub, Int.reduceAdd, h0, hn0, hn1, hw, nbq1_0 nx, nbq0_1 nx, hP1, hQ1, hP2, hP3, hQ3]
                        exact ⟨_, by omega, k + 1, a, b, c, _, nx + 1 + 1, _, rfl, rfl, by omega, by omega, by omega, habc, (by simp only [upd_at, beqE, hn0, hn1, cond_false]; exact h0), hv⟩
                  | true =>
                    cases Q2 with
                    | false =>
                      cases P3 with
                      | false =>
                        simp at hB
                      | true =>
                        cases Q3 with
                        | false =>
                          simp at hB
                        | true =>
                          simp only [push_cast, Nat.reduceBEq, Nat.reduceAdd, Nat.reduceEqDiff, reduceCtorEq, Nat.reduceLeDiff, Nat.reduceSub, Nat.reduceMul, Nat.reduceLT, Int.reduceEq, Int.reduceLT, Int.reduceLE, Int.reduceBEq, Int.reduceBNe, Int.reduceToNat, Int.reduceNeg, Int.reduceSub, Int.reduceAdd, h0, hn0, hn1, hw, nbq1_0 nx, nbq0_1 nx, hP1, hQ1, hP2, hQ2, hP3, hQ3]
                          exact ⟨_, by omega, k + 1, a, b, c, _, nx + 1 + 1, _, rfl, rfl, by omega, by omega, by omega, habc, (by simp only [upd_at, beqE, hn0, hn1, cond_false]; exact h0), hv⟩
                    | true =>
                      simp only [push_cast, Nat.reduceBEq, Nat.reduceAdd, Nat.reduceEqDiff, reduceCtorEq, Nat.reduceLeDiff, Nat.reduceSub, Nat.reduceMul, Nat.reduceLT, Int.reduceEq, Int.reduceLT, Int.reduceLE, Int.reduceBEq, Int.reduceBNe, Int.reduceToNat, Int.reduceNeg, Int.reduceSub, Int.reduceAdd, h0, hn0, hn1, hw, nbq1_0 nx, nbq0_1 nx, hP1, hQ1, hP2, hQ2]
                      exact ⟨_, by omega, k + 1, a, b, c, _, nx + 1 + 1, _, rfl, rfl, by omega, by omega, by omega, habc, (by simp only [upd_at, beqE, hn0, hn1, cond_false]; exact h0), hv⟩
                | true =>
                  simp only [push_cast, Nat.reduceBEq, Nat.reduceAdd, Nat.reduceEqDiff, reduceCtorEq, Nat.reduceLeDiff, Nat.reduceSub, Nat.reduceMul, Nat.reduceLT, Int.reduceEq, Int.reduceLT, Int.reduceLE, Int.reduceBEq, Int.reduceBNe, Int.reduceToNat, Int.reduceNeg, Int.reduceSub, Int.reduceAdd, h0, hn0, hn1, hw, nbq1_0 nx, nbq0_1 nx, hP1, hQ1]
                  exact ⟨_, by omega, k + 1, a, b, c, _, nx + 1 + 1, _, rfl, rfl, by omega, by omega, by omega, habc, (by simp only [upd_at, beqE, hn0, hn1, cond_false]; exact h0), hv⟩
          | false =>
            rw [hB, if_neg (by decide)] at hA
            refine callD (by rcases hv with rfl | rfl <;> exact hA) ?_
            obtain ⟨A, eA⟩ : ∃ x, told e.log a = x := ⟨_, rfl⟩
            obtain ⟨B, eB⟩ : ∃ x, told e.next b = x := ⟨_, rfl⟩
            obtain ⟨C, eC⟩ : ∃ x, told e.seq c = x := ⟨_, rfl⟩
            obtain ⟨⟨hA1, mA⟩, ⟨hB1, mB⟩, hC1, mC⟩ := num_ok habc (by rw [hP1, hQ1, hP2, hQ2, hP3, hQ3]; exact hB) eA eB eC
            have hABC : 0 ≤ A ∧ 0 ≤ B ∧ 0 ≤ C := by omega
            have hFi := hF A B C hABC
            simp only [push_cast, Nat.reduceBEq, Nat.reduceAdd, Nat.reduceEqDiff, reduceCtorEq, Nat.reduceLeDiff, Nat.reduceSub, Nat.reduceMul, Nat.reduceLT, Int.reduceEq, Int.reduceLT, Int.reduceLE, Int.reduceBEq, Int.reduceBNe, Int.reduceToNat, Int.reduceNeg, Int.reduceSub, Int.reduceAdd, h0, hn0, hn1, stH, numS, eA, eB, eC, nbq1_0 nx, nbq0_1 nx, hA1, hB1, hC1, mA, mB, mC]
            refine callK hFi ?_
            simp only [push_cast, Nat.reduceBEq, Nat.reduceAdd, Nat.reduceEqDiff, reduceCtorEq, Nat.reduceLeDiff, Nat.reduceSub, Nat.reduceMul, Nat.reduceLT, Int.reduceEq, Int.reduceLT, Int.reduceLE, Int.reduceBEq, Int.reduceBNe, Int.reduceToNat, Int.reduceNeg, Int.reduceSub, Int.reduceAdd, h0, hn0, hn1, hw, nbq1_0 nx, nbq0_1 nx]
            exact ⟨_, by omega, k + 1, A, B, C, .sl [], nx + 1 + 1, _, rfl, rfl, by omega, by omega, by omega, hABC, upd_same _ _ _, .inr rfl⟩
    · have h4' : ¬ (k : Int) < 40 := by omega
      simp only [push_cast, Nat.reduceBEq, Nat.reduceAdd, Nat.reduceEqDiff, reduceCtorEq, Nat.reduceLeDiff, Nat.reduceSub, Nat.reduceMul, Nat.reduceLT, Int.reduceEq, Int.reduceLT, Int.reduceLE, Int.reduceBEq, Int.reduceBNe, Int.reduceToNat, Int.reduceNeg, Int.reduceSub, Int.reduceAdd, h, h4']
  · simp only [push_cast, Nat.reduceBEq, Nat.reduceAdd, Nat.reduceEqDiff, reduceCtorEq, Nat.reduceLeDiff, Nat.reduceSub, Nat.reduceMul, Nat.reduceLT, Int.reduceEq, Int.reduceLT, Int.reduceLE, Int.reduceBEq, Int.reduceBNe, Int.reduceToNat, Int.reduceNeg, Int.reduceSub, Int.reduceAdd, h]
end Go.Proofs.Ytheanmfdfoefoaa
