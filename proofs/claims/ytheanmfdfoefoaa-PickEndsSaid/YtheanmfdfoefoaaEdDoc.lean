/- The reference's DocApply, by the walk over a heap. -/
import Derived.Test.YtheanmfdfoefoaaEdOwn
import Derived.Test.YtheanmfdfoefoaaEdApply
set_option linter.unusedVariables false
set_option linter.unusedSimpArgs false
namespace Go.Proofs.Ytheanmfdfoefoaa
open Go Go.RowKit Hv
set_option maxRecDepth 20000
set_option maxHeartbeats 8000000
/-- DocApply's memory: the state so far, the edit, the answer, no state. -/
structure DocM (S : StD) (e : EdD) (H : Hp) : Prop where
  r0 : H 0 = some (.cells (stC S))
  r1 : H 1 = some (.cells (edCells e))
  r2 : H 2 = some (.cells zeroC)
  r3 : H 3 = some (.cells zeroC)
theorem DocM.set {S S' : StD} {e : EdD} {H : Hp} {c : List AV} (h : DocM S e H) (hc : c = stC S') : DocM S' e (upd H 0 (some (.cells c))) :=
  ⟨by rw [upd_same, hc], (upd_other (by decide)).trans h.r1, (upd_other (by decide)).trans h.r2, (upd_other (by decide)).trans h.r3⟩
theorem apart_no {l : List MetaD} {k : Nat} {x y : MetaD} (hx : l[k]? = some x) (hy : l[k + 1]? = some y) (h : sle y.first x.last = true) : apartL l = false := by
  cases ha : apartL l with
  | false => rfl
  | true =>
    obtain ⟨hk, e1⟩ := List.getElem?_eq_some_iff.1 hy
    obtain ⟨hk', e2⟩ := List.getElem?_eq_some_iff.1 hx
    have := (apart_iff l).1 ha k hk
    rw [e1, e2, h] at this; cases this
theorem right_pl0 {p : PlD} (h : plB p = true) : (p.level.toNat : Int) = p.level ∧ True ∧ p.level.toNat < 4 ∧ True := by
  simp only [plB, Bool.and_eq_true, decide_eq_true_eq] at h
  exact ⟨by omega, trivial, by omega, trivial⟩
theorem docApply_h (s : StD) (e : EdD) (hl : ∀ n, n < 4 → (s.lv n).length ≤ 100000) : Hv.ACalls Try.prog 42 [stH s, edH e] (.tup [stH (docApply s e).1, .lit (.int .i64 (docApply s e).2)]) := by
  refine acallsC_of (rs := [.cell 4 28, .tmp 5]) ⟨[0, 1, 2, 3, 4, 5, 6, 7, 8, 9, 10, 11, 12, 13, 17, 52, 58, 81, 96, 107, 132, 135, 144, 164, 168, 174, 180], [], [], [(9, [(0, [], []), (1, [], []), (2, [], []), (3, [], []), (4, [], []), (5, [], []), (6, [], []), (7, [], []), (8, [], []), (9, [], []), (10, [], []), (11, [], []), (12, [], []), (13, [], []), (14, [], []), (15, [], [8, 14, 7, 13, 6, 5, 12, 4, 10, 11, 3, 9, 1, 2, 0]), (16, [], []), (17, [], []), (18, [], []), (19, [], [17, 15, 0, 1, 2, 3, 4, 5, 6, 7, 8, 9, 10, 11, 12, 13, 14, 16]), (20, [], [18, 19, 0, 1, 2, 3, 4, 5, 6, 7, 8, 9, 10, 11, 12, 13, 14, 15, 16, 17])]), (16, [(0, [], []), (1, [], []), (2, [], []), (3, [], []), (4, [], []), (5, [], []), (6, [], []), (7, [], []), (8, [], [0, 7, 6, 5, 4, 2, 3, 1])]), (19, [(0, [], []), (1, [], []), (2, [], []), (3, [], []), (4, [], []), (5, [], []), (6, [], []), (7, [], []), (8, [], []), (9, [], []), (10, [], []), (11, [], []), (13, [], []), (12, [], [4, 10, 11, 3, 9, 2, 1, 8, 6, 7, 5]), (14, [], []), (15, [], [14, 12, 0, 1, 2, 3, 4, 5, 6, 7, 8, 9, 10, 11, 13])]), (28, [(0, [], []), (1, [], []), (2, [], []), (3, [], []), (4, [], []), (5, [], []), (6, [], []), (7, [], []), (8, [], []), (9, [], []), (10, [], []), (11, [], []), (12, [], []), (13, [], []), (14, [], []), (15, [], []), (16, [], []), (17, [], [])])], [6, 13, 20, 30]⟩ TOk mixed Try.func42 rfl rfl (by kernel_rfl) (by kernel_rfl) rfl (nid2 (noId_st s) (noId_ed e)) (by rw [noId_tup]; exact nid2 (noId_st _) (.lit _)) ?_
  unfold docApply
  simp only [push_cast, Nat.reduceBEq, Nat.reduceAdd, Nat.reduceEqDiff, reduceCtorEq, Nat.reduceLeDiff, Nat.reduceSub, Nat.reduceMul, Nat.reduceLT, Int.reduceEq, Int.reduceLT, Int.reduceLE, Int.reduceBEq, Int.reduceBNe, Int.reduceToNat, Int.reduceNeg, Int.reduceSub, Int.reduceAdd, edH, stH]
  refine callK (docRight_h e) ?_
  cases hr : rightB e with
  | false =>
    simp only [push_cast, Nat.reduceBEq, Nat.reduceAdd, Nat.reduceEqDiff, reduceCtorEq, Nat.reduceLeDiff, Nat.reduceSub, Nat.reduceMul, Nat.reduceLT, Int.reduceEq, Int.reduceLT, Int.reduceLE, Int.reduceBEq, Int.reduceBNe, Int.reduceToNat, Int.reduceNeg, Int.reduceSub, Int.reduceAdd]
    rfl
  | true =>
  obtain ⟨_, _, _, hgl, hnl, hga, hna⟩ := right_nums hr
  rw [if_neg (by decide)]
  simp only [push_cast, Nat.reduceBEq, Nat.reduceAdd, Nat.reduceEqDiff, reduceCtorEq, Nat.reduceLeDiff, Nat.reduceSub, Nat.reduceMul, Nat.reduceLT, Int.reduceEq, Int.reduceLT, Int.reduceLE, Int.reduceBEq, Int.reduceBNe, Int.reduceToNat, Int.reduceNeg, Int.reduceSub, Int.reduceAdd]
  have hbE : badB s e = ((decide (0 ≤ e.log) && decide (e.log < s.log)) || (decide (0 ≤ e.next) && decide (e.next < s.next)) || (decide (0 ≤ e.seq) && decide (e.seq < s.seq))) := rfl
  have hM0 : ∀ c, stC s = c → DocM s e (upd (upd (upd (upd (upd (fun _ => none) 0 (some (.cells c))) 1 (some (.cells (edCells e)))) 2 (some (.cells zeroC))) 3 (some (.cells zeroC))) 3 (some (.cells zeroC))) := fun c hc => by
    subst hc; exact ⟨rfl, rfl, rfl, rfl⟩
  refine cutK (fun x => badB s e = false ∧ ∃ H, DocM s e H ∧ x = ⟨[(2, .ptr 0 0), (3, .ptr 1 0), (4, .ptr 2 0), (5, .lit (.int .i64 0)), (6, .ptr 3 0)], H, 4⟩) [2, 3, 4, 5, 6] ?_ ?_
  · by_cases p0 : 0 ≤ e.log
    · have gp0 : e.log ≥ 0 := p0
      by_cases q0 : e.log < s.log
      · have hb : badB s e = true := by rw [hbE]; simp only [p0, q0, decide_true, decide_false, Bool.and_true, Bool.true_and, Bool.and_false, Bool.false_and, Bool.or_false, Bool.or_true, Bool.true_or, Bool.false_or]
        rw [if_pos hb]
        simp only [push_cast, Nat.reduceBEq, Nat.reduceAdd, Nat.reduceEqDiff, reduceCtorEq, Nat.reduceLeDiff, Nat.reduceSub, Nat.reduceMul, Nat.reduceLT, Int.reduceEq, Int.reduceLT, Int.reduceLE, Int.reduceBEq, Int.reduceBNe, Int.reduceToNat, Int.reduceNeg, Int.reduceSub, Int.reduceAdd, gp0, q0]
        rfl
      · by_cases p1 : 0 ≤ e.next
        · have gp1 : e.next ≥ 0 := p1
          by_cases q1 : e.next < s.next
          · have hb : badB s e = true := by rw [hbE]; simp only [p0, q0, p1, q1, decide_true, decide_false, Bool.and_true, Bool.true_and, Bool.and_false, Bool.false_and, Bool.or_false, Bool.or_true, Bool.true_or, Bool.false_or]
            rw [if_pos hb]
            simp only [push_cast, Nat.reduceBEq, Nat.reduceAdd, Nat.reduceEqDiff, reduceCtorEq, Nat.reduceLeDiff, Nat.reduceSub, Nat.reduceMul, Nat.reduceLT, Int.reduceEq, Int.reduceLT, Int.reduceLE, Int.reduceBEq, Int.reduceBNe, Int.reduceToNat, Int.reduceNeg, Int.reduceSub, Int.reduceAdd, gp0, q0, gp1, q1]
            rfl
          · by_cases p2 : 0 ≤ e.seq
            · have gp2 : e.seq ≥ 0 := p2
              by_cases q2 : e.seq < s.seq
              · have hb : badB s e = true := by rw [hbE]; simp only [p0, q0, p1, q1, p2, q2, decide_true, decide_false, Bool.and_true, Bool.true_and, Bool.and_false, Bool.false_and, Bool.or_false, Bool.or_true, Bool.true_or, Bool.false_or]
                rw [if_pos hb]
                simp only [push_cast, Nat.reduceBEq, Nat.reduceAdd, Nat.reduceEqDiff, reduceCtorEq, Nat.reduceLeDiff, Nat.reduceSub, Nat.reduceMul, Nat.reduceLT, Int.reduceEq, Int.reduceLT, Int.reduceLE, Int.reduceBEq, Int.reduceBNe, Int.reduceToNat, Int.reduceNeg, Int.reduceSub, Int.reduceAdd, gp0, q0, gp1, q1, gp2, q2]
                rfl
              · have hb : badB s e = false := by rw [hbE]; simp only [p0, q0, p1, q1, p2, q2, decide_true, decide_false, Bool.and_true, Bool.true_and, Bool.and_false, Bool.false_and, Bool.or_false]
                simp only [push_cast, Nat.reduceBEq, Nat.reduceAdd, Nat.reduceEqDiff, reduceCtorEq, Nat.reduceLeDiff, Nat.reduceSub, Nat.reduceMul, Nat.reduceLT, Int.reduceEq, Int.reduceLT, Int.reduceLE, Int.reduceBEq, Int.reduceBNe, Int.reduceToNat, Int.reduceNeg, Int.reduceSub, Int.reduceAdd, gp0, q0, gp1, q1, gp2, q2]
                exact ⟨hb, _, hM0 _ rfl, rfl⟩
            · have gp2 : ¬ e.seq ≥ 0 := p2
              have hb : badB s e = false := by rw [hbE]; simp only [p0, q0, p1, q1, p2, decide_true, decide_false, Bool.and_true, Bool.true_and, Bool.and_false, Bool.false_and, Bool.or_false]
              simp only [push_cast, Nat.reduceBEq, Nat.reduceAdd, Nat.reduceEqDiff, reduceCtorEq, Nat.reduceLeDiff, Nat.reduceSub, Nat.reduceMul, Nat.reduceLT, Int.reduceEq, Int.reduceLT, Int.reduceLE, Int.reduceBEq, Int.reduceBNe, Int.reduceToNat, Int.reduceNeg, Int.reduceSub, Int.reduceAdd, gp0, q0, gp1, q1, gp2]
              exact ⟨hb, _, hM0 _ rfl, rfl⟩
        · have gp1 : ¬ e.next ≥ 0 := p1
          by_cases p2 : 0 ≤ e.seq
          · have gp2 : e.seq ≥ 0 := p2
            by_cases q2 : e.seq < s.seq
            · have hb : badB s e = true := by rw [hbE]; simp only [p0, q0, p1, p2, q2, decide_true, decide_false, Bool.and_true, Bool.true_and, Bool.and_false, Bool.false_and, Bool.or_false, Bool.or_true, Bool.true_or, Bool.false_or]
              rw [if_pos hb]
              simp only [push_cast, Nat.reduceBEq, Nat.reduceAdd, Nat.reduceEqDiff, reduceCtorEq, Nat.reduceLeDiff, Nat.reduceSub, Nat.reduceMul, Nat.reduceLT, Int.reduceEq, Int.reduceLT, Int.reduceLE, Int.reduceBEq, Int.reduceBNe, Int.reduceToNat, Int.reduceNeg, Int.reduceSub, Int.reduceAdd, gp0, q0, gp1, gp2, q2]
              rfl
            · have hb : badB s e = false := by rw [hbE]; simp only [p0, q0, p1, p2, q2, decide_true, decide_false, Bool.and_true, Bool.true_and, Bool.and_false, Bool.false_and, Bool.or_false]
              simp only [push_cast, Nat.reduceBEq, Nat.reduceAdd, Nat.reduceEqDiff, reduceCtorEq, Nat.reduceLeDiff, Nat.reduceSub, Nat.reduceMul, Nat.reduceLT, Int.reduceEq, Int.reduceLT, Int.reduceLE, Int.reduceBEq, Int.reduceBNe, Int.reduceToNat, Int.reduceNeg, Int.reduceSub, Int.reduceAdd, gp0, q0, gp1, gp2, q2]
              exact ⟨hb, _, hM0 _ rfl, rfl⟩
          · have gp2 : ¬ e.seq ≥ 0 := p2
            have hb : badB s e = false := by rw [hbE]; simp only [p0, q0, p1, p2, decide_true, decide_false, Bool.and_true, Bool.true_and, Bool.and_false, Bool.false_and, Bool.or_false]
            simp only [push_cast, Nat.reduceBEq, Nat.reduceAdd, Nat.reduceEqDiff, reduceCtorEq, Nat.reduceLeDiff, Nat.reduceSub, Nat.reduceMul, Nat.reduceLT, Int.reduceEq, Int.reduceLT, Int.reduceLE, Int.reduceBEq, Int.reduceBNe, Int.reduceToNat, Int.reduceNeg, Int.reduceSub, Int.reduceAdd, gp0, q0, gp1, gp2]
            exact ⟨hb, _, hM0 _ rfl, rfl⟩
    · have gp0 : ¬ e.log ≥ 0 := p0
      by_cases p1 : 0 ≤ e.next
      · have gp1 : e.next ≥ 0 := p1
        by_cases q1 : e.next < s.next
        · have hb : badB s e = true := by rw [hbE]; simp only [p0, p1, q1, decide_true, decide_false, Bool.and_true, Bool.true_and, Bool.and_false, Bool.false_and, Bool.or_false, Bool.or_true, Bool.true_or, Bool.false_or]
          rw [if_pos hb]
          simp only [push_cast, Nat.reduceBEq, Nat.reduceAdd, Nat.reduceEqDiff, reduceCtorEq, Nat.reduceLeDiff, Nat.reduceSub, Nat.reduceMul, Nat.reduceLT, Int.reduceEq, Int.reduceLT, Int.reduceLE, Int.reduceBEq, Int.reduceBNe, Int.reduceToNat, Int.reduceNeg, Int.reduceSub, Int.reduceAdd, gp0, gp1, q1]
          rfl
        · by_cases p2 : 0 ≤ e.seq
          · have gp2 : e.seq ≥ 0 := p2
            by_cases q2 : e.seq < s.seq
            · have hb : badB s e = true := by rw [hbE]; simp only [p0, p1, q1, p2, q2, decide_true, decide_false, Bool.and_true, Bool.true_and, Bool.and_false, Bool.false_and, Bool.or_false, Bool.or_true, Bool.true_or, Bool.false_or]
              rw [if_pos hb]
              simp only [push_cast, Nat.reduceBEq, Nat.reduceAdd, Nat.reduceEqDiff, reduceCtorEq, Nat.reduceLeDiff, Nat.reduceSub, Nat.reduceMul, Nat.reduceLT, Int.reduceEq, Int.reduceLT, Int.reduceLE, Int.reduceBEq, Int.reduceBNe, Int.reduceToNat, Int.reduceNeg, Int.reduceSub, Int.reduceAdd, gp0, gp1, q1, gp2, q2]
              rfl
            · have hb : badB s e = false := by rw [hbE]; simp only [p0, p1, q1, p2, q2, decide_true, decide_false, Bool.and_true, Bool.true_and, Bool.and_false, Bool.false_and, Bool.or_false]
              simp only [push_cast, Nat.reduceBEq, Nat.reduceAdd, Nat.reduceEqDiff, reduceCtorEq, Nat.reduceLeDiff, Nat.reduceSub, Nat.reduceMul, Nat.reduceLT, Int.reduceEq, Int.reduceLT, Int.reduceLE, Int.reduceBEq, Int.reduceBNe, Int.reduceToNat, Int.reduceNeg, Int.reduceSub, Int.reduceAdd, gp0, gp1, q1, gp2, q2]
              exact ⟨hb, _, hM0 _ rfl, rfl⟩
          · have gp2 : ¬ e.seq ≥ 0 := p2
            have hb : badB s e = false := by rw [hbE]; simp only [p0, p1, q1, p2, decide_true, decide_false, Bool.and_true, Bool.true_and, Bool.and_false, Bool.false_and, Bool.or_false]
            simp only [push_cast, Nat.reduceBEq, Nat.reduceAdd, Nat.reduceEqDiff, reduceCtorEq, Nat.reduceLeDiff, Nat.reduceSub, Nat.reduceMul, Nat.reduceLT, Int.reduceEq, Int.reduceLT, Int.reduceLE, Int.reduceBEq, Int.reduceBNe, Int.reduceToNat, Int.reduceNeg, Int.reduceSub, Int.reduceAdd, gp0, gp1, q1, gp2]
            exact ⟨hb, _, hM0 _ rfl, rfl⟩
      · have gp1 : ¬ e.next ≥ 0 := p1
        by_cases p2 : 0 ≤ e.seq
        · have gp2 : e.seq ≥ 0 := p2
          by_cases q2 : e.seq < s.seq
          · have hb : badB s e = true := by rw [hbE]; simp only [p0, p1, p2, q2, decide_true, decide_false, Bool.and_true, Bool.true_and, Bool.and_false, Bool.false_and, Bool.or_false, Bool.or_true, Bool.true_or, Bool.false_or]
            rw [if_pos hb]
            simp only [push_cast, Nat.reduceBEq, Nat.reduceAdd, Nat.reduceEqDiff, reduceCtorEq, Nat.reduceLeDiff, Nat.reduceSub, Nat.reduceMul, Nat.reduceLT, Int.reduceEq, Int.reduceLT, Int.reduceLE, Int.reduceBEq, Int.reduceBNe, Int.reduceToNat, Int.reduceNeg, Int.reduceSub, Int.reduceAdd, gp0, gp1, gp2, q2]
            rfl
          · have hb : badB s e = false := by rw [hbE]; simp only [p0, p1, p2, q2, decide_true, decide_false, Bool.and_true, Bool.true_and, Bool.and_false, Bool.false_and, Bool.or_false]
            simp only [push_cast, Nat.reduceBEq, Nat.reduceAdd, Nat.reduceEqDiff, reduceCtorEq, Nat.reduceLeDiff, Nat.reduceSub, Nat.reduceMul, Nat.reduceLT, Int.reduceEq, Int.reduceLT, Int.reduceLE, Int.reduceBEq, Int.reduceBNe, Int.reduceToNat, Int.reduceNeg, Int.reduceSub, Int.reduceAdd, gp0, gp1, gp2, q2]
            exact ⟨hb, _, hM0 _ rfl, rfl⟩
        · have gp2 : ¬ e.seq ≥ 0 := p2
          have hb : badB s e = false := by rw [hbE]; simp only [p0, p1, p2, decide_true, decide_false, Bool.and_true, Bool.true_and, Bool.and_false, Bool.false_and, Bool.or_false]
          simp only [push_cast, Nat.reduceBEq, Nat.reduceAdd, Nat.reduceEqDiff, reduceCtorEq, Nat.reduceLeDiff, Nat.reduceSub, Nat.reduceMul, Nat.reduceLT, Int.reduceEq, Int.reduceLT, Int.reduceLE, Int.reduceBEq, Int.reduceBNe, Int.reduceToNat, Int.reduceNeg, Int.reduceSub, Int.reduceAdd, gp0, gp1, gp2]
          exact ⟨hb, _, hM0 _ rfl, rfl⟩
  rintro _ ⟨hb, H, hM, rfl⟩
  rw [if_neg (by rw [hb]; decide)]
  clear hbE hM0 hb
  have hl0 : ∀ n, n < 4 → (s.lv n).length ≤ 200000 := fun n hn => Nat.le_trans (hl n hn) (by omega)
  clear hl
  simp only [push_cast, Nat.reduceBEq, Nat.reduceAdd, Nat.reduceEqDiff, reduceCtorEq, Nat.reduceLeDiff, Nat.reduceSub, Nat.reduceMul, Nat.reduceLT, Int.reduceEq, Int.reduceLT, Int.reduceLE, Int.reduceBEq, Int.reduceBNe, Int.reduceToNat, Int.reduceNeg, Int.reduceSub, Int.reduceAdd]
  refine cutK (fun x => ∃ S H, DocM S e H ∧ (∀ n, n < 4 → (S.lv n).length ≤ 200000) ∧ applyGo s e = applyNew S e ∧ x = ⟨[(2, .ptr 0 0), (3, .ptr 1 0), (4, .ptr 2 0), (5, .lit (.int .i64 0)), (6, .ptr 3 0)], H, 4⟩) [2, 3, 4, 5, 6] ?_ ?_
  · simp only [push_cast, Nat.reduceBEq, Nat.reduceAdd, Nat.reduceEqDiff, reduceCtorEq, Nat.reduceLeDiff, Nat.reduceSub, Nat.reduceMul, Nat.reduceLT, Int.reduceEq, Int.reduceLT, Int.reduceLE, Int.reduceBEq, Int.reduceBNe, Int.reduceToNat, Int.reduceNeg, Int.reduceSub, Int.reduceAdd]
    refine loopK (fun m x => ∃ (k : Nat) (S : StD) (H : Hp), k ≤ e.gone.length ∧ m = e.gone.length - k ∧ DocM S e H ∧ (∀ n, n < 4 → (S.lv n).length ≤ 200000) ∧ goneS s e.gone = goneS S (e.gone.drop k) ∧ x = ⟨[(2, .ptr 0 0), (3, .ptr 1 0), (4, .ptr 2 0), (5, .lit (.int .i64 0)), (6, .ptr 3 0), (7, .lit (.int .i64 (k : Int)))], H, 4⟩) _ [2, 3, 4, 5, 6, 7] ⟨0, s, H, Nat.zero_le _, rfl, hM, hl0, by rw [List.drop_zero], rfl⟩ ?_
    clear hM hl0
    rintro m _ ⟨k, S, H, hk, rfl, ⟨r0, r1, r2, r3⟩, hl, hg, rfl⟩
    unfold stC at r0
    unfold edCells at r1
    unfold zeroC nilA at r2 r3
    by_cases h : k < e.gone.length
    · obtain ⟨p, hp⟩ : ∃ p, e.gone[k]? = some p := ⟨_, List.getElem?_eq_getElem h⟩
      have hpB : plB p = true := List.all_eq_true.1 hga p (List.mem_of_getElem? hp)
      have hw := wrap_nat (k := k) (by omega)
      have hdr : e.gone.drop k = p :: e.gone.drop (k + 1) := by
        obtain ⟨hk', e1⟩ := List.getElem?_eq_some_iff.1 hp
        rw [← e1]; exact List.drop_eq_getElem_cons hk'
      rw [hdr] at hg
      obtain ⟨a, f, ha, hpe⟩ : ∃ (a : Nat) (f : Int), a < 4 ∧ p = ⟨(a : Int), f⟩ := by
        obtain ⟨q1, q2, q3, q4⟩ := right_pl0 hpB
        exact ⟨p.level.toNat, p.file, q3, by cases p; simp only at q1 ⊢; rw [q1]⟩
      subst hpe
      have hwo := without_h (S.lv a) f (by have := hl a ha; omega)
      by_cases hlt : (withoutL (S.lv a) f).length < (S.lv a).length
      · rw [goneS_yes (by exact hlt)] at hg
        have hg : goneS s e.gone = goneS (S.with a (withoutL (S.lv a) f)) (e.gone.drop (k + 1)) := hg
        have hl' : ∀ n, n < 4 → ((S.with a (withoutL (S.lv a) f)).lv n).length ≤ 200000 := fun n hn => by
          rw [with_lv]; split
          · have := hl a ha; omega
          · exact hl n hn
        rw [decide_eq_true hlt] at hwo
        obtain rfl | rfl | rfl | rfl : a = 0 ∨ a = 1 ∨ a = 2 ∨ a = 3 := by omega
        · simp only [push_cast, Nat.reduceBEq, Nat.reduceAdd, Nat.reduceEqDiff, reduceCtorEq, Nat.reduceLeDiff, Nat.reduceSub, Nat.reduceMul, Nat.reduceLT, Int.reduceEq, Int.reduceLT, Int.reduceLE, Int.reduceBEq, Int.reduceBNe, Int.reduceToNat, Int.reduceNeg, Int.reduceSub, Int.reduceAdd, h, hp, plH, r0, r1, r2, r3]
          refine callD hwo ?_
          simp only [push_cast, Nat.reduceBEq, Nat.reduceAdd, Nat.reduceEqDiff, reduceCtorEq, Nat.reduceLeDiff, Nat.reduceSub, Nat.reduceMul, Nat.reduceLT, Int.reduceEq, Int.reduceLT, Int.reduceLE, Int.reduceBEq, Int.reduceBNe, Int.reduceToNat, Int.reduceNeg, Int.reduceSub, Int.reduceAdd, h, hp, plH, r0, r1, r2, r3, hw]
          exact ⟨_, by omega, k + 1, _, upd H 0 _, by omega, rfl, DocM.set ⟨r0, r1, r2, r3⟩ (by rfl), hl', hg, rfl⟩
        · simp only [push_cast, Nat.reduceBEq, Nat.reduceAdd, Nat.reduceEqDiff, reduceCtorEq, Nat.reduceLeDiff, Nat.reduceSub, Nat.reduceMul, Nat.reduceLT, Int.reduceEq, Int.reduceLT, Int.reduceLE, Int.reduceBEq, Int.reduceBNe, Int.reduceToNat, Int.reduceNeg, Int.reduceSub, Int.reduceAdd, h, hp, plH, r0, r1, r2, r3]
          refine callD hwo ?_
          simp only [push_cast, Nat.reduceBEq, Nat.reduceAdd, Nat.reduceEqDiff, reduceCtorEq, Nat.reduceLeDiff, Nat.reduceSub, Nat.reduceMul, Nat.reduceLT, Int.reduceEq, Int.reduceLT, Int.reduceLE, Int.reduceBEq, Int.reduceBNe, Int.reduceToNat, Int.reduceNeg, Int.reduceSub, Int.reduceAdd, h, hp, plH, r0, r1, r2, r3, hw]
          exact ⟨_, by omega, k + 1, _, upd H 0 _, by omega, rfl, DocM.set ⟨r0, r1, r2, r3⟩ (by rfl), hl', hg, rfl⟩
        · simp only [push_cast, Nat.reduceBEq, Nat.reduceAdd, Nat.reduceEqDiff, reduceCtorEq, Nat.reduceLeDiff, Nat.reduceSub, Nat.reduceMul, Nat.reduceLT, Int.reduceEq, Int.reduceLT, Int.reduceLE, Int.reduceBEq, Int.reduceBNe, Int.reduceToNat, Int.reduceNeg, Int.reduceSub, Int.reduceAdd, h, hp, plH, r0, r1, r2, r3]
          refine callD hwo ?_
          simp only [push_cast, Nat.reduceBEq, Nat.reduceAdd, Nat.reduceEqDiff, reduceCtorEq, Nat.reduceLeDiff, Nat.reduceSub, Nat.reduceMul, Nat.reduceLT, Int.reduceEq, Int.reduceLT, Int.reduceLE, Int.reduceBEq, Int.reduceBNe, Int.reduceToNat, Int.reduceNeg, Int.reduceSub, Int.reduceAdd, h, hp, plH, r0, r1, r2, r3, hw]
          exact ⟨_, by omega, k + 1, _, upd H 0 _, by omega, rfl, DocM.set ⟨r0, r1, r2, r3⟩ (by rfl), hl', hg, rfl⟩
        · simp only [push_cast, Nat.reduceBEq, Nat.reduceAdd, Nat.reduceEqDiff, reduceCtorEq, Nat.reduceLeDiff, Nat.reduceSub, Nat.reduceMul, Nat.reduceLT, Int.reduceEq, Int.reduceLT, Int.reduceLE, Int.reduceBEq, Int.reduceBNe, Int.reduceToNat, Int.reduceNeg, Int.reduceSub, Int.reduceAdd, h, hp, plH, r0, r1, r2, r3]
          refine callD hwo ?_
          simp only [push_cast, Nat.reduceBEq, Nat.reduceAdd, Nat.reduceEqDiff, reduceCtorEq, Nat.reduceLeDiff, Nat.reduceSub, Nat.reduceMul, Nat.reduceLT, Int.reduceEq, Int.reduceLT, Int.reduceLE, Int.reduceBEq, Int.reduceBNe, Int.reduceToNat, Int.reduceNeg, Int.reduceSub, Int.reduceAdd, h, hp, plH, r0, r1, r2, r3, hw]
          exact ⟨_, by omega, k + 1, _, upd H 0 _, by omega, rfl, DocM.set ⟨r0, r1, r2, r3⟩ (by rfl), hl', hg, rfl⟩
      · rw [goneS_no (by exact hlt)] at hg
        rw [decide_eq_false hlt] at hwo
        have hres : applyGo s e = (noS, 7) := by unfold applyGo; rw [hg]
        rw [hres]
        obtain rfl | rfl | rfl | rfl : a = 0 ∨ a = 1 ∨ a = 2 ∨ a = 3 := by omega
        · simp only [push_cast, Nat.reduceBEq, Nat.reduceAdd, Nat.reduceEqDiff, reduceCtorEq, Nat.reduceLeDiff, Nat.reduceSub, Nat.reduceMul, Nat.reduceLT, Int.reduceEq, Int.reduceLT, Int.reduceLE, Int.reduceBEq, Int.reduceBNe, Int.reduceToNat, Int.reduceNeg, Int.reduceSub, Int.reduceAdd, h, hp, plH, r0, r1, r2, r3]
          refine callD hwo ?_
          simp only [push_cast, Nat.reduceBEq, Nat.reduceAdd, Nat.reduceEqDiff, reduceCtorEq, Nat.reduceLeDiff, Nat.reduceSub, Nat.reduceMul, Nat.reduceLT, Int.reduceEq, Int.reduceLT, Int.reduceLE, Int.reduceBEq, Int.reduceBNe, Int.reduceToNat, Int.reduceNeg, Int.reduceSub, Int.reduceAdd, h, hp, plH, r0, r1, r2, r3, hw]
          rfl
        · simp only [push_cast, Nat.reduceBEq, Nat.reduceAdd, Nat.reduceEqDiff, reduceCtorEq, Nat.reduceLeDiff, Nat.reduceSub, Nat.reduceMul, Nat.reduceLT, Int.reduceEq, Int.reduceLT, Int.reduceLE, Int.reduceBEq, Int.reduceBNe, Int.reduceToNat, Int.reduceNeg, Int.reduceSub, Int.reduceAdd, h, hp, plH, r0, r1, r2, r3]
          refine callD hwo ?_
          simp only [push_cast, Nat.reduceBEq, Nat.reduceAdd, Nat.reduceEqDiff, reduceCtorEq, Nat.reduceLeDiff, Nat.reduceSub, Nat.reduceMul, Nat.reduceLT, Int.reduceEq, Int.reduceLT, Int.reduceLE, Int.reduceBEq, Int.reduceBNe, Int.reduceToNat, Int.reduceNeg, Int.reduceSub, Int.reduceAdd, h, hp, plH, r0, r1, r2, r3, hw]
          rfl
        · simp only [push_cast, Nat.reduceBEq, Nat.reduceAdd, Nat.reduceEqDiff, reduceCtorEq, Nat.reduceLeDiff, Nat.reduceSub, Nat.reduceMul, Nat.reduceLT, Int.reduceEq, Int.reduceLT, Int.reduceLE, Int.reduceBEq, Int.reduceBNe, Int.reduceToNat, Int.reduceNeg, Int.reduceSub, Int.reduceAdd, h, hp, plH, r0, r1, r2, r3]
          refine callD hwo ?_
          simp only [push_cast, Nat.reduceBEq, Nat.reduceAdd, Nat.reduceEqDiff, reduceCtorEq, Nat.reduceLeDiff, Nat.reduceSub, Nat.reduceMul, Nat.reduceLT, Int.reduceEq, Int.reduceLT, Int.reduceLE, Int.reduceBEq, Int.reduceBNe, Int.reduceToNat, Int.reduceNeg, Int.reduceSub, Int.reduceAdd, h, hp, plH, r0, r1, r2, r3, hw]
          rfl
        · simp only [push_cast, Nat.reduceBEq, Nat.reduceAdd, Nat.reduceEqDiff, reduceCtorEq, Nat.reduceLeDiff, Nat.reduceSub, Nat.reduceMul, Nat.reduceLT, Int.reduceEq, Int.reduceLT, Int.reduceLE, Int.reduceBEq, Int.reduceBNe, Int.reduceToNat, Int.reduceNeg, Int.reduceSub, Int.reduceAdd, h, hp, plH, r0, r1, r2, r3]
          refine callD hwo ?_
          simp only [push_cast, Nat.reduceBEq, Nat.reduceAdd, Nat.reduceEqDiff, reduceCtorEq, Nat.reduceLeDiff, Nat.reduceSub, Nat.reduceMul, Nat.reduceLT, Int.reduceEq, Int.reduceLT, Int.reduceLE, Int.reduceBEq, Int.reduceBNe, Int.reduceToNat, Int.reduceNeg, Int.reduceSub, Int.reduceAdd, h, hp, plH, r0, r1, r2, r3, hw]
          rfl
    · obtain rfl : k = e.gone.length := by omega
      rw [List.drop_length] at hg
      simp only [push_cast, Nat.reduceBEq, Nat.reduceAdd, Nat.reduceEqDiff, reduceCtorEq, Nat.reduceLeDiff, Nat.reduceSub, Nat.reduceMul, Nat.reduceLT, Int.reduceEq, Int.reduceLT, Int.reduceLE, Int.reduceBEq, Int.reduceBNe, Int.reduceToNat, Int.reduceNeg, Int.reduceSub, Int.reduceAdd, h, r1]
      exact ⟨S, H, ⟨r0, r1, r2, r3⟩, hl, by unfold applyGo; rw [hg]; rfl, rfl⟩
  clear hM H hl0
  rintro _ ⟨S, H, hM, hl, hgo, rfl⟩
  rw [hgo]
  clear hgo
  simp only [push_cast, Nat.reduceBEq, Nat.reduceAdd, Nat.reduceEqDiff, reduceCtorEq, Nat.reduceLeDiff, Nat.reduceSub, Nat.reduceMul, Nat.reduceLT, Int.reduceEq, Int.reduceLT, Int.reduceLE, Int.reduceBEq, Int.reduceBNe, Int.reduceToNat, Int.reduceNeg, Int.reduceSub, Int.reduceAdd]
  refine cutK (fun x => ∃ S2 H, DocM S2 e H ∧ (∀ n, n < 4 → (S2.lv n).length ≤ 400000) ∧ applyNew S e = applyEnd S2 e ∧ x = ⟨[(2, .ptr 0 0), (3, .ptr 1 0), (4, .ptr 2 0), (5, .lit (.int .i64 0)), (6, .ptr 3 0)], H, 4⟩) [2, 3, 4, 5, 6] ?_ ?_
  · simp only [push_cast, Nat.reduceBEq, Nat.reduceAdd, Nat.reduceEqDiff, reduceCtorEq, Nat.reduceLeDiff, Nat.reduceSub, Nat.reduceMul, Nat.reduceLT, Int.reduceEq, Int.reduceLT, Int.reduceLE, Int.reduceBEq, Int.reduceBNe, Int.reduceToNat, Int.reduceNeg, Int.reduceSub, Int.reduceAdd]
    refine loopK (fun m x => ∃ (k : Nat) (S2 : StD) (H : Hp), k ≤ e.new.length ∧ m = e.new.length - k ∧ DocM S2 e H ∧ (∀ n, n < 4 → (S2.lv n).length ≤ 200000 + k) ∧ newS S e.new = newS S2 (e.new.drop k) ∧ x = ⟨[(2, .ptr 0 0), (3, .ptr 1 0), (4, .ptr 2 0), (5, .lit (.int .i64 0)), (6, .ptr 3 0), (10, .lit (.int .i64 (k : Int)))], H, 4⟩) _ [2, 3, 4, 5, 6, 10] ⟨0, S, H, Nat.zero_le _, rfl, hM, hl, by rw [List.drop_zero], rfl⟩ ?_
    clear hM hl
    rintro m _ ⟨k, S2, H, hk, rfl, ⟨r0, r1, r2, r3⟩, hl, hg, rfl⟩
    unfold stC at r0
    unfold edCells at r1
    unfold zeroC nilA at r2 r3
    by_cases h : k < e.new.length
    · obtain ⟨p, hp⟩ : ∃ p, e.new[k]? = some p := ⟨_, List.getElem?_eq_getElem h⟩
      have hpB : addB p = true := List.all_eq_true.1 hna p (List.mem_of_getElem? hp)
      have hw := wrap_nat (k := k) (by omega)
      have hdr : e.new.drop k = p :: e.new.drop (k + 1) := by
        obtain ⟨hk', e1⟩ := List.getElem?_eq_some_iff.1 hp
        rw [← e1]; exact List.drop_eq_getElem_cons hk'
      rw [hdr] at hg
      obtain ⟨a, t, ha, hpe⟩ : ∃ (a : Nat) (t : MetaD), a < 4 ∧ p = ⟨(a : Int), t⟩ := by
        have : (p.level.toNat : Int) = p.level ∧ p.level.toNat < 4 := by
          simp only [addB, Bool.and_eq_true, decide_eq_true_eq] at hpB
          exact ⟨by omega, by omega⟩
        exact ⟨p.level.toNat, p.t, this.2, by cases p; simp only at this ⊢; rw [this.1]⟩
      subst hpe
      obtain ⟨tf, ts, tx, ty⟩ := t
      have hha := has_h S2 tf
      have hpu := put_h' (S2.lv a) ⟨tf, ts, tx, ty⟩ a (by have := hl a ha; omega)
      unfold stH at hha
      unfold metaH at hpu
      by_cases hh : hasB S2 tf = true
      · rw [newS_no (by exact hh)] at hg
        rw [hh] at hha
        have hres : applyNew S e = (noS, 8) := by unfold applyNew; rw [hg]
        rw [hres]
        simp only [push_cast, Nat.reduceBEq, Nat.reduceAdd, Nat.reduceEqDiff, reduceCtorEq, Nat.reduceLeDiff, Nat.reduceSub, Nat.reduceMul, Nat.reduceLT, Int.reduceEq, Int.reduceLT, Int.reduceLE, Int.reduceBEq, Int.reduceBNe, Int.reduceToNat, Int.reduceNeg, Int.reduceSub, Int.reduceAdd, h, hp, addH, r0, r1, r2, r3]
        refine callD hha ?_
        simp only [push_cast, Nat.reduceBEq, Nat.reduceAdd, Nat.reduceEqDiff, reduceCtorEq, Nat.reduceLeDiff, Nat.reduceSub, Nat.reduceMul, Nat.reduceLT, Int.reduceEq, Int.reduceLT, Int.reduceLE, Int.reduceBEq, Int.reduceBNe, Int.reduceToNat, Int.reduceNeg, Int.reduceSub, Int.reduceAdd, h, hp, addH, r0, r1, r2, r3]
        rfl
      · have hh : hasB S2 tf = false := by simpa using hh
        rw [newS_yes (by exact hh)] at hg
        have hg : newS S e.new = newS (S2.with a (putL (S2.lv a) ⟨tf, ts, tx, ty⟩ a)) (e.new.drop (k + 1)) := hg
        have hl' : ∀ n, n < 4 → ((S2.with a (putL (S2.lv a) ⟨tf, ts, tx, ty⟩ a)).lv n).length ≤ 200000 + (k + 1) := fun n hn => by
          rw [with_lv]; split
          · have := hl a ha; rw [putL_len]; omega
          · have := hl n hn; omega
        rw [hh] at hha
        obtain rfl | rfl | rfl | rfl : a = 0 ∨ a = 1 ∨ a = 2 ∨ a = 3 := by omega
        · simp only [push_cast, Nat.reduceBEq, Nat.reduceAdd, Nat.reduceEqDiff, reduceCtorEq, Nat.reduceLeDiff, Nat.reduceSub, Nat.reduceMul, Nat.reduceLT, Int.reduceEq, Int.reduceLT, Int.reduceLE, Int.reduceBEq, Int.reduceBNe, Int.reduceToNat, Int.reduceNeg, Int.reduceSub, Int.reduceAdd, h, hp, addH, r0, r1, r2, r3]
          refine callD hha ?_
          simp only [push_cast, Nat.reduceBEq, Nat.reduceAdd, Nat.reduceEqDiff, reduceCtorEq, Nat.reduceLeDiff, Nat.reduceSub, Nat.reduceMul, Nat.reduceLT, Int.reduceEq, Int.reduceLT, Int.reduceLE, Int.reduceBEq, Int.reduceBNe, Int.reduceToNat, Int.reduceNeg, Int.reduceSub, Int.reduceAdd, h, hp, addH, r0, r1, r2, r3]
          refine callD hpu ?_
          simp only [push_cast, Nat.reduceBEq, Nat.reduceAdd, Nat.reduceEqDiff, reduceCtorEq, Nat.reduceLeDiff, Nat.reduceSub, Nat.reduceMul, Nat.reduceLT, Int.reduceEq, Int.reduceLT, Int.reduceLE, Int.reduceBEq, Int.reduceBNe, Int.reduceToNat, Int.reduceNeg, Int.reduceSub, Int.reduceAdd, h, hp, addH, r0, r1, r2, r3, hw]
          exact ⟨_, by omega, k + 1, _, upd H 0 _, by omega, rfl, DocM.set ⟨r0, r1, r2, r3⟩ (by rfl), hl', hg, rfl⟩
        · simp only [push_cast, Nat.reduceBEq, Nat.reduceAdd, Nat.reduceEqDiff, reduceCtorEq, Nat.reduceLeDiff, Nat.reduceSub, Nat.reduceMul, Nat.reduceLT, Int.reduceEq, Int.reduceLT, Int.reduceLE, Int.reduceBEq, Int.reduceBNe, Int.reduceToNat, Int.reduceNeg, Int.reduceSub, Int.reduceAdd, h, hp, addH, r0, r1, r2, r3]
          refine callD hha ?_
          simp only [push_cast, Nat.reduceBEq, Nat.reduceAdd, Nat.reduceEqDiff, reduceCtorEq, Nat.reduceLeDiff, Nat.reduceSub, Nat.reduceMul, Nat.reduceLT, Int.reduceEq, Int.reduceLT, Int.reduceLE, Int.reduceBEq, Int.reduceBNe, Int.reduceToNat, Int.reduceNeg, Int.reduceSub, Int.reduceAdd, h, hp, addH, r0, r1, r2, r3]
          refine callD hpu ?_
          simp only [push_cast, Nat.reduceBEq, Nat.reduceAdd, Nat.reduceEqDiff, reduceCtorEq, Nat.reduceLeDiff, Nat.reduceSub, Nat.reduceMul, Nat.reduceLT, Int.reduceEq, Int.reduceLT, Int.reduceLE, Int.reduceBEq, Int.reduceBNe, Int.reduceToNat, Int.reduceNeg, Int.reduceSub, Int.reduceAdd, h, hp, addH, r0, r1, r2, r3, hw]
          exact ⟨_, by omega, k + 1, _, upd H 0 _, by omega, rfl, DocM.set ⟨r0, r1, r2, r3⟩ (by rfl), hl', hg, rfl⟩
        · simp only [push_cast, Nat.reduceBEq, Nat.reduceAdd, Nat.reduceEqDiff, reduceCtorEq, Nat.reduceLeDiff, Nat.reduceSub, Nat.reduceMul, Nat.reduceLT, Int.reduceEq, Int.reduceLT, Int.reduceLE, Int.reduceBEq, Int.reduceBNe, Int.reduceToNat, Int.reduceNeg, Int.reduceSub, Int.reduceAdd, h, hp, addH, r0, r1, r2, r3]
          refine callD hha ?_
          simp only [push_cast, Nat.reduceBEq, Nat.reduceAdd, Nat.reduceEqDiff, reduceCtorEq, Nat.reduceLeDiff, Nat.reduceSub, Nat.reduceMul, Nat.reduceLT, Int.reduceEq, Int.reduceLT, Int.reduceLE, Int.reduceBEq, Int.reduceBNe, Int.reduceToNat, Int.reduceNeg, Int.reduceSub, Int.reduceAdd, h, hp, addH, r0, r1, r2, r3]
          refine callD hpu ?_
          simp only [push_cast, Nat.reduceBEq, Nat.reduceAdd, Nat.reduceEqDiff, reduceCtorEq, Nat.reduceLeDiff, Nat.reduceSub, Nat.reduceMul, Nat.reduceLT, Int.reduceEq, Int.reduceLT, Int.reduceLE, Int.reduceBEq, Int.reduceBNe, Int.reduceToNat, Int.reduceNeg, Int.reduceSub, Int.reduceAdd, h, hp, addH, r0, r1, r2, r3, hw]
          exact ⟨_, by omega, k + 1, _, upd H 0 _, by omega, rfl, DocM.set ⟨r0, r1, r2, r3⟩ (by rfl), hl', hg, rfl⟩
        · simp only [push_cast, Nat.reduceBEq, Nat.reduceAdd, Nat.reduceEqDiff, reduceCtorEq, Nat.reduceLeDiff, Nat.reduceSub, Nat.reduceMul, Nat.reduceLT, Int.reduceEq, Int.reduceLT, Int.reduceLE, Int.reduceBEq, Int.reduceBNe, Int.reduceToNat, Int.reduceNeg, Int.reduceSub, Int.reduceAdd, h, hp, addH, r0, r1, r2, r3]
          refine callD hha ?_
          simp only [push_cast, Nat.reduceBEq, Nat.reduceAdd, Nat.reduceEqDiff, reduceCtorEq, Nat.reduceLeDiff, Nat.reduceSub, Nat.reduceMul, Nat.reduceLT, Int.reduceEq, Int.reduceLT, Int.reduceLE, Int.reduceBEq, Int.reduceBNe, Int.reduceToNat, Int.reduceNeg, Int.reduceSub, Int.reduceAdd, h, hp, addH, r0, r1, r2, r3]
          refine callD hpu ?_
          simp only [push_cast, Nat.reduceBEq, Nat.reduceAdd, Nat.reduceEqDiff, reduceCtorEq, Nat.reduceLeDiff, Nat.reduceSub, Nat.reduceMul, Nat.reduceLT, Int.reduceEq, Int.reduceLT, Int.reduceLE, Int.reduceBEq, Int.reduceBNe, Int.reduceToNat, Int.reduceNeg, Int.reduceSub, Int.reduceAdd, h, hp, addH, r0, r1, r2, r3, hw]
          exact ⟨_, by omega, k + 1, _, upd H 0 _, by omega, rfl, DocM.set ⟨r0, r1, r2, r3⟩ (by rfl), hl', hg, rfl⟩
    · obtain rfl : k = e.new.length := by omega
      rw [List.drop_length] at hg
      simp only [push_cast, Nat.reduceBEq, Nat.reduceAdd, Nat.reduceEqDiff, reduceCtorEq, Nat.reduceLeDiff, Nat.reduceSub, Nat.reduceMul, Nat.reduceLT, Int.reduceEq, Int.reduceLT, Int.reduceLE, Int.reduceBEq, Int.reduceBNe, Int.reduceToNat, Int.reduceNeg, Int.reduceSub, Int.reduceAdd, h, r1]
      exact ⟨S2, H, ⟨r0, r1, r2, r3⟩, fun n hn => by have := hl n hn; omega, by unfold applyNew; rw [hg]; rfl, rfl⟩
  clear hM hl H
  rintro _ ⟨S2, H, ⟨r0, r1, r2, r3⟩, hl, hgo, rfl⟩
  rw [hgo]
  clear hgo S hna hga
  unfold stC at r0
  unfold edCells at r1
  unfold zeroC nilA at r2 r3
  have hco := count_h S2 (fun n hn => by have := hl n hn; omega)
  unfold stH at hco
  simp only [push_cast, Nat.reduceBEq, Nat.reduceAdd, Nat.reduceEqDiff, reduceCtorEq, Nat.reduceLeDiff, Nat.reduceSub, Nat.reduceMul, Nat.reduceLT, Int.reduceEq, Int.reduceLT, Int.reduceLE, Int.reduceBEq, Int.reduceBNe, Int.reduceToNat, Int.reduceNeg, Int.reduceSub, Int.reduceAdd, r0]
  refine callK hco ?_
  unfold applyEnd
  by_cases hc : 1000 < countS S2
  · rw [if_pos hc]
    have hc' : ((countS S2 : Nat) : Int) > 1000 := by omega
    simp only [push_cast, Nat.reduceBEq, Nat.reduceAdd, Nat.reduceEqDiff, reduceCtorEq, Nat.reduceLeDiff, Nat.reduceSub, Nat.reduceMul, Nat.reduceLT, Int.reduceEq, Int.reduceLT, Int.reduceLE, Int.reduceBEq, Int.reduceBNe, Int.reduceToNat, Int.reduceNeg, Int.reduceSub, Int.reduceAdd, hc', r0, r1, r2, r3]
    rfl
  rw [if_neg hc]
  have hc' : ¬ ((countS S2 : Nat) : Int) > 1000 := by omega
  simp only [push_cast, Nat.reduceBEq, Nat.reduceAdd, Nat.reduceEqDiff, reduceCtorEq, Nat.reduceLeDiff, Nat.reduceSub, Nat.reduceMul, Nat.reduceLT, Int.reduceEq, Int.reduceLT, Int.reduceLE, Int.reduceBEq, Int.reduceBNe, Int.reduceToNat, Int.reduceNeg, Int.reduceSub, Int.reduceAdd, hc', r0, r1, r2, r3]
  refine cutK (fun x => apartS S2 = true ∧ x = ⟨[(2, .ptr 0 0), (3, .ptr 1 0), (4, .ptr 2 0), (5, .lit (.int .i64 0)), (6, .ptr 3 0)], H, 4⟩) [2, 3, 4, 5, 6] ?_ ?_
  · simp only [push_cast, Nat.reduceBEq, Nat.reduceAdd, Nat.reduceEqDiff, reduceCtorEq, Nat.reduceLeDiff, Nat.reduceSub, Nat.reduceMul, Nat.reduceLT, Int.reduceEq, Int.reduceLT, Int.reduceLE, Int.reduceBEq, Int.reduceBNe, Int.reduceToNat, Int.reduceNeg, Int.reduceSub, Int.reduceAdd]
    refine loopK (fun m x => ∃ n : Nat, 1 ≤ n ∧ n ≤ 4 ∧ m = 4 - n ∧ (∀ i, 1 ≤ i → i < n → apartL (S2.lv i) = true) ∧ x = ⟨[(2, .ptr 0 0), (3, .ptr 1 0), (4, .ptr 2 0), (5, .lit (.int .i64 0)), (6, .ptr 3 0), (12, .lit (.int .i64 (n : Int)))], H, 4⟩) _ [2, 3, 4, 5, 6, 12] (by exact ⟨1, by omega, by omega, rfl, fun i h1 h2 => by omega, rfl⟩) ?_
    rintro m _ ⟨n, hn1, hn4, rfl, hP, rfl⟩
    obtain rfl | rfl | rfl | rfl : n = 4 ∨ n = 1 ∨ n = 2 ∨ n = 3 := by omega
    · simp only [push_cast, Nat.reduceBEq, Nat.reduceAdd, Nat.reduceEqDiff, reduceCtorEq, Nat.reduceLeDiff, Nat.reduceSub, Nat.reduceMul, Nat.reduceLT, Int.reduceEq, Int.reduceLT, Int.reduceLE, Int.reduceBEq, Int.reduceBNe, Int.reduceToNat, Int.reduceNeg, Int.reduceSub, Int.reduceAdd]
      unfold apartS; rw [hP 1 (by omega) (by omega), hP 2 (by omega) (by omega), hP 3 (by omega) (by omega)]; rfl
    · have hS : (S2.lv 1).length ≤ 400000 := hl 1 (by omega)
      simp only [push_cast, Nat.reduceBEq, Nat.reduceAdd, Nat.reduceEqDiff, reduceCtorEq, Nat.reduceLeDiff, Nat.reduceSub, Nat.reduceMul, Nat.reduceLT, Int.reduceEq, Int.reduceLT, Int.reduceLE, Int.reduceBEq, Int.reduceBNe, Int.reduceToNat, Int.reduceNeg, Int.reduceSub, Int.reduceAdd]
      refine loopK (fun m x => ∃ k : Nat, 1 ≤ k ∧ m = (S2.lv 1).length + 1 - k ∧ (k ≤ (S2.lv 1).length ∨ k = 1) ∧ apartTo (S2.lv 1) k ∧ x = ⟨[(2, .ptr 0 0), (3, .ptr 1 0), (4, .ptr 2 0), (5, .lit (.int .i64 0)), (6, .ptr 3 0), (12, .lit (.int .i64 1)), (13, .lit (.int .i64 (k : Int)))], H, 4⟩) _ [2, 3, 4, 5, 6, 12, 13] (by exact ⟨1, by omega, rfl, .inr rfl, fun j x y hj _ _ => by omega, rfl⟩) ?_
      rintro m _ ⟨k, hk, rfl, hk2, hT, rfl⟩
      by_cases h : k < (S2.lv 1).length
      · obtain ⟨x, hx⟩ : ∃ x, (S2.lv 1)[k - 1]? = some x := ⟨_, List.getElem?_eq_getElem (by omega)⟩
        obtain ⟨y, hy⟩ : ∃ y, (S2.lv 1)[k]? = some y := ⟨_, List.getElem?_eq_getElem h⟩
        have hw := wrap_nat (k := k) (by omega)
        have hw1 : IntKind.i64.wrap ((k : Int) - 1) = ((k - 1 : Nat) : Int) := by
          rw [show (k : Int) - 1 = ((k - 1 : Nat) : Int) by omega]; exact IntWalk.i64_in _ (by omega)
        cases hs : sle y.first x.last with
        | true =>
          have hres : apartS S2 = false := by unfold apartS; rw [apartTo_no hx hy hk hs]; simp only [Bool.false_and, Bool.and_false]
          rw [if_pos hres]
          unfold sle at hs
          simp only [push_cast, Nat.reduceBEq, Nat.reduceAdd, Nat.reduceEqDiff, reduceCtorEq, Nat.reduceLeDiff, Nat.reduceSub, Nat.reduceMul, Nat.reduceLT, Int.reduceEq, Int.reduceLT, Int.reduceLE, Int.reduceBEq, Int.reduceBNe, Int.reduceToNat, Int.reduceNeg, Int.reduceSub, Int.reduceAdd, h, hx, hy, hw1, metaH, hs, r0, r1, r2, r3]
          rfl
        | false =>
          have hT' := apartTo_step hT hx hy hk hs
          unfold sle at hs
          simp only [push_cast, Nat.reduceBEq, Nat.reduceAdd, Nat.reduceEqDiff, reduceCtorEq, Nat.reduceLeDiff, Nat.reduceSub, Nat.reduceMul, Nat.reduceLT, Int.reduceEq, Int.reduceLT, Int.reduceLE, Int.reduceBEq, Int.reduceBNe, Int.reduceToNat, Int.reduceNeg, Int.reduceSub, Int.reduceAdd, h, hx, hy, hw1, metaH, hs, hw, r0, r1, r2, r3]
          exact ⟨_, by omega, k + 1, by omega, rfl, .inl (by omega), hT', rfl⟩
      · have hA : apartL (S2.lv 1) = true := apartTo_all (fun j x y hj => hT j x y (by omega))
        have hwn : IntKind.i64.wrap 2 = 2 := by decide
        have hn : ¬ (k : Int) < ((S2.lv 1).length : Int) := by omega
        simp only [push_cast, Nat.reduceBEq, Nat.reduceAdd, Nat.reduceEqDiff, reduceCtorEq, Nat.reduceLeDiff, Nat.reduceSub, Nat.reduceMul, Nat.reduceLT, Int.reduceEq, Int.reduceLT, Int.reduceLE, Int.reduceBEq, Int.reduceBNe, Int.reduceToNat, Int.reduceNeg, Int.reduceSub, Int.reduceAdd, hn, r0, r1, r2, r3, hwn]
        exact ⟨_, by omega, 2, by omega, by omega, rfl, fun i h1 h2 => by
          obtain rfl | h3 : i = 1 ∨ i < 1 := by omega
          · exact hA
          · exact hP i h1 h3, rfl⟩
    · have hS : (S2.lv 2).length ≤ 400000 := hl 2 (by omega)
      simp only [push_cast, Nat.reduceBEq, Nat.reduceAdd, Nat.reduceEqDiff, reduceCtorEq, Nat.reduceLeDiff, Nat.reduceSub, Nat.reduceMul, Nat.reduceLT, Int.reduceEq, Int.reduceLT, Int.reduceLE, Int.reduceBEq, Int.reduceBNe, Int.reduceToNat, Int.reduceNeg, Int.reduceSub, Int.reduceAdd]
      refine loopK (fun m x => ∃ k : Nat, 1 ≤ k ∧ m = (S2.lv 2).length + 1 - k ∧ (k ≤ (S2.lv 2).length ∨ k = 1) ∧ apartTo (S2.lv 2) k ∧ x = ⟨[(2, .ptr 0 0), (3, .ptr 1 0), (4, .ptr 2 0), (5, .lit (.int .i64 0)), (6, .ptr 3 0), (12, .lit (.int .i64 2)), (13, .lit (.int .i64 (k : Int)))], H, 4⟩) _ [2, 3, 4, 5, 6, 12, 13] (by exact ⟨1, by omega, rfl, .inr rfl, fun j x y hj _ _ => by omega, rfl⟩) ?_
      rintro m _ ⟨k, hk, rfl, hk2, hT, rfl⟩
      by_cases h : k < (S2.lv 2).length
      · obtain ⟨x, hx⟩ : ∃ x, (S2.lv 2)[k - 1]? = some x := ⟨_, List.getElem?_eq_getElem (by omega)⟩
        obtain ⟨y, hy⟩ : ∃ y, (S2.lv 2)[k]? = some y := ⟨_, List.getElem?_eq_getElem h⟩
        have hw := wrap_nat (k := k) (by omega)
        have hw1 : IntKind.i64.wrap ((k : Int) - 1) = ((k - 1 : Nat) : Int) := by
          rw [show (k : Int) - 1 = ((k - 1 : Nat) : Int) by omega]; exact IntWalk.i64_in _ (by omega)
        cases hs : sle y.first x.last with
        | true =>
          have hres : apartS S2 = false := by unfold apartS; rw [apartTo_no hx hy hk hs]; simp only [Bool.false_and, Bool.and_false]
          rw [if_pos hres]
          unfold sle at hs
          simp only [push_cast, Nat.reduceBEq, Nat.reduceAdd, Nat.reduceEqDiff, reduceCtorEq, Nat.reduceLeDiff, Nat.reduceSub, Nat.reduceMul, Nat.reduceLT, Int.reduceEq, Int.reduceLT, Int.reduceLE, Int.reduceBEq, Int.reduceBNe, Int.reduceToNat, Int.reduceNeg, Int.reduceSub, Int.reduceAdd, h, hx, hy, hw1, metaH, hs, r0, r1, r2, r3]
          rfl
        | false =>
          have hT' := apartTo_step hT hx hy hk hs
          unfold sle at hs
          simp only [push_cast, Nat.reduceBEq, Nat.reduceAdd, Nat.reduceEqDiff, reduceCtorEq, Nat.reduceLeDiff, Nat.reduceSub, Nat.reduceMul, Nat.reduceLT, Int.reduceEq, Int.reduceLT, Int.reduceLE, Int.reduceBEq, Int.reduceBNe, Int.reduceToNat, Int.reduceNeg, Int.reduceSub, Int.reduceAdd, h, hx, hy, hw1, metaH, hs, hw, r0, r1, r2, r3]
          exact ⟨_, by omega, k + 1, by omega, rfl, .inl (by omega), hT', rfl⟩
      · have hA : apartL (S2.lv 2) = true := apartTo_all (fun j x y hj => hT j x y (by omega))
        have hwn : IntKind.i64.wrap 3 = 3 := by decide
        have hn : ¬ (k : Int) < ((S2.lv 2).length : Int) := by omega
        simp only [push_cast, Nat.reduceBEq, Nat.reduceAdd, Nat.reduceEqDiff, reduceCtorEq, Nat.reduceLeDiff, Nat.reduceSub, Nat.reduceMul, Nat.reduceLT, Int.reduceEq, Int.reduceLT, Int.reduceLE, Int.reduceBEq, Int.reduceBNe, Int.reduceToNat, Int.reduceNeg, Int.reduceSub, Int.reduceAdd, hn, r0, r1, r2, r3, hwn]
        exact ⟨_, by omega, 3, by omega, by omega, rfl, fun i h1 h2 => by
          obtain rfl | h3 : i = 2 ∨ i < 2 := by omega
          · exact hA
          · exact hP i h1 h3, rfl⟩
    · have hS : (S2.lv 3).length ≤ 400000 := hl 3 (by omega)
      simp only [push_cast, Nat.reduceBEq, Nat.reduceAdd, Nat.reduceEqDiff, reduceCtorEq, Nat.reduceLeDiff, Nat.reduceSub, Nat.reduceMul, Nat.reduceLT, Int.reduceEq, Int.reduceLT, Int.reduceLE, Int.reduceBEq, Int.reduceBNe, Int.reduceToNat, Int.reduceNeg, Int.reduceSub, Int.reduceAdd]
      refine loopK (fun m x => ∃ k : Nat, 1 ≤ k ∧ m = (S2.lv 3).length + 1 - k ∧ (k ≤ (S2.lv 3).length ∨ k = 1) ∧ apartTo (S2.lv 3) k ∧ x = ⟨[(2, .ptr 0 0), (3, .ptr 1 0), (4, .ptr 2 0), (5, .lit (.int .i64 0)), (6, .ptr 3 0), (12, .lit (.int .i64 3)), (13, .lit (.int .i64 (k : Int)))], H, 4⟩) _ [2, 3, 4, 5, 6, 12, 13] (by exact ⟨1, by omega, rfl, .inr rfl, fun j x y hj _ _ => by omega, rfl⟩) ?_
      rintro m _ ⟨k, hk, rfl, hk2, hT, rfl⟩
      by_cases h : k < (S2.lv 3).length
      · obtain ⟨x, hx⟩ : ∃ x, (S2.lv 3)[k - 1]? = some x := ⟨_, List.getElem?_eq_getElem (by omega)⟩
        obtain ⟨y, hy⟩ : ∃ y, (S2.lv 3)[k]? = some y := ⟨_, List.getElem?_eq_getElem h⟩
        have hw := wrap_nat (k := k) (by omega)
        have hw1 : IntKind.i64.wrap ((k : Int) - 1) = ((k - 1 : Nat) : Int) := by
          rw [show (k : Int) - 1 = ((k - 1 : Nat) : Int) by omega]; exact IntWalk.i64_in _ (by omega)
        cases hs : sle y.first x.last with
        | true =>
          have hres : apartS S2 = false := by unfold apartS; rw [apartTo_no hx hy hk hs]; simp only [Bool.false_and, Bool.and_false]
          rw [if_pos hres]
          unfold sle at hs
          simp only [push_cast, Nat.reduceBEq, Nat.reduceAdd, Nat.reduceEqDiff, reduceCtorEq, Nat.reduceLeDiff, Nat.reduceSub, Nat.reduceMul, Nat.reduceLT, Int.reduceEq, Int.reduceLT, Int.reduceLE, Int.reduceBEq, Int.reduceBNe, Int.reduceToNat, Int.reduceNeg, Int.reduceSub, Int.reduceAdd, h, hx, hy, hw1, metaH, hs, r0, r1, r2, r3]
          rfl
        | false =>
          have hT' := apartTo_step hT hx hy hk hs
          unfold sle at hs
          simp only [push_cast, Nat.reduceBEq, Nat.reduceAdd, Nat.reduceEqDiff, reduceCtorEq, Nat.reduceLeDiff, Nat.reduceSub, Nat.reduceMul, Nat.reduceLT, Int.reduceEq, Int.reduceLT, Int.reduceLE, Int.reduceBEq, Int.reduceBNe, Int.reduceToNat, Int.reduceNeg, Int.reduceSub, Int.reduceAdd, h, hx, hy, hw1, metaH, hs, hw, r0, r1, r2, r3]
          exact ⟨_, by omega, k + 1, by omega, rfl, .inl (by omega), hT', rfl⟩
      · have hA : apartL (S2.lv 3) = true := apartTo_all (fun j x y hj => hT j x y (by omega))
        have hwn : IntKind.i64.wrap 4 = 4 := by decide
        have hn : ¬ (k : Int) < ((S2.lv 3).length : Int) := by omega
        simp only [push_cast, Nat.reduceBEq, Nat.reduceAdd, Nat.reduceEqDiff, reduceCtorEq, Nat.reduceLeDiff, Nat.reduceSub, Nat.reduceMul, Nat.reduceLT, Int.reduceEq, Int.reduceLT, Int.reduceLE, Int.reduceBEq, Int.reduceBNe, Int.reduceToNat, Int.reduceNeg, Int.reduceSub, Int.reduceAdd, hn, r0, r1, r2, r3, hwn]
        exact ⟨_, by omega, 4, by omega, by omega, rfl, fun i h1 h2 => by
          obtain rfl | h3 : i = 3 ∨ i < 3 := by omega
          · exact hA
          · exact hP i h1 h3, rfl⟩
  rintro _ ⟨hap, rfl⟩
  rw [if_neg (by rw [hap]; decide)]
  have htl : (tellS S2 e).lv = S2.lv := rfl
  unfold tellS
  by_cases p0 : 0 ≤ e.log <;> by_cases p1 : 0 ≤ e.next <;> by_cases p2 : 0 ≤ e.seq
  · have g0 : e.log ≥ 0 := p0
    have g1 : e.next ≥ 0 := p1
    have g2 : e.seq ≥ 0 := p2
    have w0 : told e.log S2.log = e.log := if_pos p0
    have w1 : told e.next S2.next = e.next := if_pos p1
    have w2 : told e.seq S2.seq = e.seq := if_pos p2
    rw [w0, w1, w2]
    simp only [push_cast, Nat.reduceBEq, Nat.reduceAdd, Nat.reduceEqDiff, reduceCtorEq, Nat.reduceLeDiff, Nat.reduceSub, Nat.reduceMul, Nat.reduceLT, Int.reduceEq, Int.reduceLT, Int.reduceLE, Int.reduceBEq, Int.reduceBNe, Int.reduceToNat, Int.reduceNeg, Int.reduceSub, Int.reduceAdd, g0, g1, g2, r0, r1, r2, r3]
    try rfl
  · have g0 : e.log ≥ 0 := p0
    have g1 : e.next ≥ 0 := p1
    have g2 : ¬ e.seq ≥ 0 := p2
    have w0 : told e.log S2.log = e.log := if_pos p0
    have w1 : told e.next S2.next = e.next := if_pos p1
    have w2 : told e.seq S2.seq = S2.seq := if_neg p2
    rw [w0, w1, w2]
    simp only [push_cast, Nat.reduceBEq, Nat.reduceAdd, Nat.reduceEqDiff, reduceCtorEq, Nat.reduceLeDiff, Nat.reduceSub, Nat.reduceMul, Nat.reduceLT, Int.reduceEq, Int.reduceLT, Int.reduceLE, Int.reduceBEq, Int.reduceBNe, Int.reduceToNat, Int.reduceNeg, Int.reduceSub, Int.reduceAdd, g0, g1, g2, r0, r1, r2, r3]
    try rfl
  · have g0 : e.log ≥ 0 := p0
    have g1 : ¬ e.next ≥ 0 := p1
    have g2 : e.seq ≥ 0 := p2
    have w0 : told e.log S2.log = e.log := if_pos p0
    have w1 : told e.next S2.next = S2.next := if_neg p1
    have w2 : told e.seq S2.seq = e.seq := if_pos p2
    rw [w0, w1, w2]
    simp only [push_cast, Nat.reduceBEq, Nat.reduceAdd, Nat.reduceEqDiff, reduceCtorEq, Nat.reduceLeDiff, Nat.reduceSub, Nat.reduceMul, Nat.reduceLT, Int.reduceEq, Int.reduceLT, Int.reduceLE, Int.reduceBEq, Int.reduceBNe, Int.reduceToNat, Int.reduceNeg, Int.reduceSub, Int.reduceAdd, g0, g1, g2, r0, r1, r2, r3]
    try rfl
  · have g0 : e.log ≥ 0 := p0
    have g1 : ¬ e.next ≥ 0 := p1
    have g2 : ¬ e.seq ≥ 0 := p2
    have w0 : told e.log S2.log = e.log := if_pos p0
    have w1 : told e.next S2.next = S2.next := if_neg p1
    have w2 : told e.seq S2.seq = S2.seq := if_neg p2
    rw [w0, w1, w2]
    simp only [push_cast, Nat.reduceBEq, Nat.reduceAdd, Nat.reduceEqDiff, reduceCtorEq, Nat.reduceLeDiff, Nat.reduceSub, Nat.reduceMul, Nat.reduceLT, Int.reduceEq, Int.reduceLT, Int.reduceLE, Int.reduceBEq, Int.reduceBNe, Int.reduceToNat, Int.reduceNeg, Int.reduceSub, Int.reduceAdd, g0, g1, g2, r0, r1, r2, r3]
    try rfl
  · have g0 : ¬ e.log ≥ 0 := p0
    have g1 : e.next ≥ 0 := p1
    have g2 : e.seq ≥ 0 := p2
    have w0 : told e.log S2.log = S2.log := if_neg p0
    have w1 : told e.next S2.next = e.next := if_pos p1
    have w2 : told e.seq S2.seq = e.seq := if_pos p2
    rw [w0, w1, w2]
    simp only [push_cast, Nat.reduceBEq, Nat.reduceAdd, Nat.reduceEqDiff, reduceCtorEq, Nat.reduceLeDiff, Nat.reduceSub, Nat.reduceMul, Nat.reduceLT, Int.reduceEq, Int.reduceLT, Int.reduceLE, Int.reduceBEq, Int.reduceBNe, Int.reduceToNat, Int.reduceNeg, Int.reduceSub, Int.reduceAdd, g0, g1, g2, r0, r1, r2, r3]
    try rfl
  · have g0 : ¬ e.log ≥ 0 := p0
    have g1 : e.next ≥ 0 := p1
    have g2 : ¬ e.seq ≥ 0 := p2
    have w0 : told e.log S2.log = S2.log := if_neg p0
    have w1 : told e.next S2.next = e.next := if_pos p1
    have w2 : told e.seq S2.seq = S2.seq := if_neg p2
    rw [w0, w1, w2]
    simp only [push_cast, Nat.reduceBEq, Nat.reduceAdd, Nat.reduceEqDiff, reduceCtorEq, Nat.reduceLeDiff, Nat.reduceSub, Nat.reduceMul, Nat.reduceLT, Int.reduceEq, Int.reduceLT, Int.reduceLE, Int.reduceBEq, Int.reduceBNe, Int.reduceToNat, Int.reduceNeg, Int.reduceSub, Int.reduceAdd, g0, g1, g2, r0, r1, r2, r3]
    try rfl
  · have g0 : ¬ e.log ≥ 0 := p0
    have g1 : ¬ e.next ≥ 0 := p1
    have g2 : e.seq ≥ 0 := p2
    have w0 : told e.log S2.log = S2.log := if_neg p0
    have w1 : told e.next S2.next = S2.next := if_neg p1
    have w2 : told e.seq S2.seq = e.seq := if_pos p2
    rw [w0, w1, w2]
    simp only [push_cast, Nat.reduceBEq, Nat.reduceAdd, Nat.reduceEqDiff, reduceCtorEq, Nat.reduceLeDiff, Nat.reduceSub, Nat.reduceMul, Nat.reduceLT, Int.reduceEq, Int.reduceLT, Int.reduceLE, Int.reduceBEq, Int.reduceBNe, Int.reduceToNat, Int.reduceNeg, Int.reduceSub, Int.reduceAdd, g0, g1, g2, r0, r1, r2, r3]
    try rfl
  · have g0 : ¬ e.log ≥ 0 := p0
    have g1 : ¬ e.next ≥ 0 := p1
    have g2 : ¬ e.seq ≥ 0 := p2
    have w0 : told e.log S2.log = S2.log := if_neg p0
    have w1 : told e.next S2.next = S2.next := if_neg p1
    have w2 : told e.seq S2.seq = S2.seq := if_neg p2
    rw [w0, w1, w2]
    simp only [push_cast, Nat.reduceBEq, Nat.reduceAdd, Nat.reduceEqDiff, reduceCtorEq, Nat.reduceLeDiff, Nat.reduceSub, Nat.reduceMul, Nat.reduceLT, Int.reduceEq, Int.reduceLT, Int.reduceLE, Int.reduceBEq, Int.reduceBNe, Int.reduceToNat, Int.reduceNeg, Int.reduceSub, Int.reduceAdd, g0, g1, g2, r0, r1, r2, r3]
    try rfl
end Go.Proofs.Ytheanmfdfoefoaa
