/- The walk over an abstract heap, texts EdRunP to EdRuns in one. -/
import Derived.Test.YtheanmfdfoefoaaEdOrdP
import Derived.Test.YtheanmfdfoefoaaEdDH
import Derived.Test.YtheanmfdfoefoaaEdDoc
import Derived.Test.YtheanmfdfoefoaaEdLaws
import Derived.Test.YtheanmfdfoefoaaEdElems
set_option linter.unusedVariables false
set_option linter.unusedSimpArgs false
set_option linter.unusedVariables false
set_option linter.unusedSimpArgs false
namespace Go.Proofs.Ytheanmfdfoefoaa
open Go Go.RowKit
/-- Numbers that an edit may tell. -/
structure NumOk (s : StD) : Prop where
  l1 : 1 ≤ s.log
  l2 : s.log ≤ 1000000
  n1 : 1 ≤ s.next
  n2 : s.next ≤ 1000000
  q1 : 0 ≤ s.seq
  q2 : s.seq ≤ 72057594037927935
  few : countS s ≤ 1000
theorem few_lv {s : StD} (h : countS s ≤ 1000) : ∀ n, n < 4 → (s.lv n).length ≤ 1000 := by
  intro n hn
  unfold countS at h
  obtain rfl | rfl | rfl | rfl : n = 0 ∨ n = 1 ∨ n = 2 ∨ n = 3 := by omega
  · omega
  · omega
  · omega
  · omega
theorem applyGo_ok {s : StD} {e : EdD} : ((applyGo s e).2 = 0 ∧ ∃ s2, goneS s e.gone ≠ none ∧ (∀ s1, goneS s e.gone = some s1 → newS s1 e.new = some s2) ∧ (applyGo s e).1 = tellS s2 e ∧ countS s2 ≤ 1000 ∧ s2.log = s.log ∧ s2.next = s.next ∧ s2.seq = s.seq) ∨ ((applyGo s e).2 ≠ 0 ∧ (applyGo s e).1 = noS) := by
  unfold applyGo
  cases hg : goneS s e.gone with
  | none => exact .inr ⟨by simp, rfl⟩
  | some s1 =>
    simp only
    unfold applyNew
    cases hn : newS s1 e.new with
    | none => exact .inr ⟨by simp, rfl⟩
    | some s2 =>
      simp only
      unfold applyEnd
      by_cases hc : 1000 < countS s2
      · rw [if_pos hc]; exact .inr ⟨by simp, rfl⟩
      · rw [if_neg hc]
        by_cases ha : apartS s2 = false
        · rw [if_pos ha]; exact .inr ⟨by simp, rfl⟩
        · rw [if_neg ha]
          obtain ⟨a1, a2, a3⟩ := goneS_nums _ _ _ hg
          obtain ⟨b1, b2, b3⟩ := newS_nums _ _ _ hn
          exact .inl ⟨rfl, s2, by simp, fun s1' h => by injection h with h; rw [← h]; exact hn, rfl, by omega, by rw [b1, a1], by rw [b2, a2], by rw [b3, a3]⟩
theorem docApply_cases (s : StD) (e : EdD) : ((docApply s e).2 = 0 ∧ rightB e = true ∧ docApply s e = applyGo s e) ∨ ((docApply s e).2 ≠ 0 ∧ (docApply s e).1 = noS) := by
  unfold docApply
  by_cases hr : rightB e = false
  · rw [if_pos hr]; exact .inr ⟨by simp, rfl⟩
  · rw [if_neg hr]
    by_cases hb : badB s e = true
    · rw [if_pos hb]; exact .inr ⟨by simp, rfl⟩
    · rw [if_neg hb]
      rcases applyGo_ok (s := s) (e := e) with h | h
      · exact .inl ⟨h.1, by simpa using hr, rfl⟩
      · exact .inr h
theorem docApply_num {s : StD} {e : EdD} (h : NumOk s) (h0 : (docApply s e).2 = 0) : NumOk (docApply s e).1 := by
  rcases docApply_cases s e with ⟨_, hr, hd⟩ | ⟨h1, _⟩
  · rw [hd] at h0 ⊢
    rcases applyGo_ok (s := s) (e := e) with ⟨_, s2, _, _, ht, hc, e1, e2, e3⟩ | ⟨h1, _⟩
    · have hh := (headB_iff e).1 (by unfold rightB at hr; simp only [Bool.and_eq_true] at hr; exact hr.1.1)
      obtain ⟨⟨a1, a2, a3⟩, ⟨b1, b2, b3⟩, ⟨c1, c2⟩, _, _⟩ := hh
      rw [ht]
      obtain ⟨l1, l2, n1, n2, q1, q2, _⟩ := h
      refine ⟨?_, ?_, ?_, ?_, ?_, ?_, hc⟩ <;> simp only [tellS, told, e1, e2, e3] <;> split <;> omega
    · exact absurd h0 h1
  · exact absurd h0 h1
theorem docApply_lens {s : StD} {e : EdD} : ∀ n, n < 4 → ((docApply s e).1.lv n).length ≤ 1000 := by
  rcases docApply_cases s e with ⟨h0, hr, hd⟩ | ⟨_, h1⟩
  · rw [hd] at h0 ⊢
    rcases applyGo_ok (s := s) (e := e) with ⟨_, s2, _, _, ht, hc, _⟩ | ⟨h1, _⟩
    · rw [ht]; exact few_lv (s := tellS s2 e) hc
    · exact absurd h0 h1
  · rw [h1]; intro n _; exact Nat.zero_le _
/-- The levels of an answer don't hang on the numbers. -/
theorem applyGo_lv {s : StD} {e e' : EdD} (hg : e.gone = e'.gone) (hn : e.new = e'.new) : (applyGo s e).2 = (applyGo s e').2 ∧ (applyGo s e).1.lv = (applyGo s e').1.lv := by
  unfold applyGo applyNew applyEnd
  rw [hg, hn]
  cases goneS s e'.gone with
  | none => exact ⟨rfl, rfl⟩
  | some s1 =>
    simp only
    cases newS s1 e'.new with
    | none => exact ⟨rfl, rfl⟩
    | some s2 =>
      simp only
      by_cases hc : 1000 < countS s2
      · rw [if_pos hc, if_pos hc]; exact ⟨rfl, rfl⟩
      · rw [if_neg hc, if_neg hc]
        by_cases ha : apartS s2 = false
        · rw [if_pos ha, if_pos ha]; exact ⟨rfl, rfl⟩
        · rw [if_neg ha, if_neg ha]; exact ⟨rfl, rfl⟩
theorem filter_lv (l : List MetaD) (k n : Nat) : ((l.map fun m => (⟨(k : Int), m⟩ : AddD)).filter fun a => a.level.toNat == n).map (·.t) = if k = n then l else [] := by
  induction l with
  | nil => split <;> rfl
  | cons m l ih =>
    rw [List.map_cons, List.filter_cons]
    have e : ((⟨(k : Int), m⟩ : AddD).level.toNat == n) = (k == n) := rfl
    by_cases h : k = n
    · subst h
      rw [e, beq_self_eq_true, if_pos rfl, List.map_cons, ih, if_pos rfl, if_pos rfl]
    · have hb : (k == n) = false := beq_eq_false_iff_ne.2 h
      rw [e, hb, if_neg (by decide), ih, if_neg h, if_neg h]
theorem whole_lvT (s : StD) {n : Nat} (hn : n < 4) : lvT (wholeTo s 4) n = s.lv n := by
  unfold lvT wholeTo wholeTo wholeTo wholeTo wholeTo
  simp only [List.filter_append, List.map_append, filter_lv, List.nil_append, List.filter_nil, List.map_nil]
  obtain rfl | rfl | rfl | rfl : n = 0 ∨ n = 1 ∨ n = 2 ∨ n = 3 := by omega
  · simp
  · simp
  · simp
  · simp
theorem whole_files (s : StD) : filesA (wholeTo s 4) = (allS s).map (·.file) := by
  unfold filesA allS
  simp [wholeTo, List.map_append, List.map_map, Function.comp_def]
theorem whole_ok {s : StD} (h : Wf0 s) : OkA (wholeTo s 4) := by
  refine ⟨fun a ha => ?_, by rw [whole_files]; exact h.uq, fun n h1 h4 => ?_⟩
  · have key : ∀ k, k < 4 → ∀ m ∈ s.lv k, addB ⟨(k : Int), m⟩ = true := fun k hk m hm => by
      unfold addB
      rw [h.good k m hm]
      simp; omega
    simp only [wholeTo, List.nil_append, List.mem_append, List.mem_map] at ha
    rcases ha with ((⟨m, hm, rfl⟩ | ⟨m, hm, rfl⟩) | ⟨m, hm, rfl⟩) | ⟨m, hm, rfl⟩
    · exact key 0 (by omega) m hm
    · exact key 1 (by omega) m hm
    · exact key 2 (by omega) m hm
    · exact key 3 (by omega) m hm
  · rw [whole_lvT s h4]
    exact (apart_disj (h.mid.srt n h1 h4) fun m hm => h.good n m hm).1 (apartS_lv h.ap (by omega) h4)
theorem whole_len (s : StD) : (wholeTo s 4).length = countS s := by
  simp only [wholeTo, List.length_append, List.length_map, List.length_nil, countS]; omega
theorem whole_right {s : StD} (h : Wf0 s) (hn : NumOk s) : rightB (wholeE s) = true := by
  have hh : headB (wholeE s) = true := by
    rw [headB_iff]
    have := hn.few
    have h2 := whole_len s
    obtain ⟨l1, l2, n1, n2, q1, q2, _⟩ := hn
    refine ⟨⟨?_, ?_, ?_⟩, ⟨?_, ?_, ?_⟩, ⟨?_, ?_⟩, Nat.zero_le _, ?_⟩
    · show -1 ≤ s.log; omega
    · show s.log ≠ 0; omega
    · exact l2
    · show -1 ≤ s.next; omega
    · show s.next ≠ 0; omega
    · exact n2
    · show -1 ≤ s.seq; omega
    · exact q2
    · show (wholeTo s 4).length ≤ 1000; omega
  unfold rightB
  rw [hh]
  have := List.all_eq_true.2 (whole_ok h).add
  show (true && true && (wholeTo s 4).all addB) = true
  rw [this]; rfl
/-- The edit that makes a state of the empty one. -/
theorem whole_law {s : StD} (h : Wf0 s) (hn : NumOk s) : (docApply emptyS (wholeE s)).2 = 0 ∧ (docApply emptyS (wholeE s)).1.log = s.log ∧ (docApply emptyS (wholeE s)).1.next = s.next ∧ (docApply emptyS (wholeE s)).1.seq = s.seq ∧ ∀ n, n < 4 → (docApply emptyS (wholeE s)).1.lv n = s.lv n := by
  have hr := whole_right h hn
  have hb : badB emptyS (wholeE s) = false := by
    have a : ¬ s.log < 1 := by have := hn.l1; omega
    have b : ¬ s.next < 1 := by have := hn.n1; omega
    have c : ¬ s.seq < 0 := by have := hn.q1; omega
    show ((decide (0 ≤ s.log) && decide (s.log < 1)) || (decide (0 ≤ s.next) && decide (s.next < 1)) || (decide (0 ≤ s.seq) && decide (s.seq < 0))) = false
    simp [a, b, c]
  have hd : docApply emptyS (wholeE s) = applyGo emptyS (wholeE s) := by
    unfold docApply
    rw [if_neg (by rw [hr]; decide), if_neg (by rw [hb]; decide)]
  have hlen : ([] : List AddD).length + (wholeTo s 4).length ≤ 1000 := by rw [whole_len]; have := hn.few; simpa using this
  have hok := whole_ok h
  obtain ⟨L1, L2⟩ := add_law empty_wf0 hasT_empty okA_nil hlen
  have h0 := L2 (by simpa using hok)
  obtain ⟨_, hT, _⟩ := L1 h0
  have hd' : docApply emptyS (addE (wholeTo s 4)) = applyGo emptyS (addE (wholeTo s 4)) := by
    rcases docApply_cases emptyS (addE (wholeTo s 4)) with ⟨_, _, h⟩ | ⟨h, _⟩
    · exact h
    · exact absurd h0 h
  obtain ⟨e1, e2⟩ := applyGo_lv (s := emptyS) (e := wholeE s) (e' := addE (wholeTo s 4)) rfl rfl
  have hw := docApply_wf0 empty_wf0 h0
  have hT2 : HasT s (wholeTo s 4) := fun n hn => by
    have := whole_lvT s hn
    unfold lvT at this
    rw [this]
  have hlv := hasT_eq hw h hT hT2 (by simp)
  rw [hd'] at h0 hlv
  rw [hd]
  have g0 : (applyGo emptyS (wholeE s)).2 = 0 := e1.trans h0
  refine ⟨g0, ?_⟩
  rcases applyGo_ok (s := emptyS) (e := wholeE s) with ⟨_, s2, _, _, ht, hc, f1, f2, f3⟩ | ⟨g1, _⟩
  · refine ⟨?_, ?_, ?_, fun n hn4 => by rw [e2]; exact hlv n hn4⟩
    · rw [ht]; show told s.log s2.log = s.log; unfold told; rw [if_pos (by have := hn.l1; omega)]
    · rw [ht]; show told s.next s2.next = s.next; unfold told; rw [if_pos (by have := hn.n1; omega)]
    · rw [ht]; show told s.seq s2.seq = s.seq; unfold told; rw [if_pos hn.q1]
  · exact absurd g0 g1
end Go.Proofs.Ytheanmfdfoefoaa
set_option linter.unusedVariables false
set_option linter.unusedSimpArgs false
namespace Go.Proofs.Ytheanmfdfoefoaa
open Go Go.RowKit Hv
set_option maxRecDepth 20000
set_option maxHeartbeats 8000000
theorem noId_edits' (row : List EdD) : NoId (.sl (row.map edL)) := by
  rw [noId_sl]
  intro it hit
  obtain ⟨e, _, rfl⟩ := List.mem_map.1 hit
  intro c hc
  simp only [edL, List.mem_cons, List.not_mem_nil, or_false] at hc
  rcases hc with rfl | rfl | rfl | rfl | rfl
  · exact .lit _
  · exact .lit _
  · exact .lit _
  · exact noId_pls _
  · exact noId_adds _
theorem empty_h : Hv.ACalls Try.prog 41 [] (stH emptyS) := by
  refine acallsC_of (rs := [.cell 0 28]) ⟨[0], [], [], [], []⟩ TOk mixed Try.func41 rfl rfl (by kernel_rfl) (by kernel_rfl) rfl (by simp) (noId_st _) ?_
  simp only [push_cast, Nat.reduceBEq, Nat.reduceAdd, Nat.reduceEqDiff, reduceCtorEq, Nat.reduceLeDiff, Nat.reduceSub, Nat.reduceMul, Nat.reduceLT, Int.reduceEq, Int.reduceLT, Int.reduceLE, Int.reduceBEq, Int.reduceBNe, Int.reduceToNat, Int.reduceNeg, Int.reduceSub, Int.reduceAdd]
  rfl
/-- A level's cell: nil at first. -/
def LvV (l : List MetaD) (v : AV) : Prop := v = .sl (l.map metaH) ∨ (v = .lit (.slice none 0 0) ∧ l = [])
theorem LvV.view {l : List MetaD} {v : AV} (h : LvV l v) (H : Hp) : AV.view1 H v = .sl (l.map metaH) := by
  rcases h with rfl | ⟨rfl, rfl⟩ <;> rfl
theorem LvV.one {l : List MetaD} {v : AV} (h : LvV l v) : AV.isOne v = true := by
  rcases h with rfl | ⟨rfl, rfl⟩ <;> rfl
def svC (S : StD) (v0 v1 v2 v3 : AV) : List AV := [.lit (.int .i64 S.log), .lit (.int .i64 S.next), .lit (.int .i64 S.seq), v0, v1, v2, v3]
/-- The law's memory: the program's state, the document's. -/
structure RunM (S : StD) (v0 v1 v2 v3 : AV) (nx : Nat) (H : Hp) : Prop where
  a0 : LvV (S.lv 0) v0
  a1 : LvV (S.lv 1) v1
  a2 : LvV (S.lv 2) v2
  a3 : LvV (S.lv 3) v3
  n2 : 2 ≤ nx
  r0 : H 0 = some (.cells (svC S v0 v1 v2 v3))
  r1 : H 1 = some (.cells (stCells S))
theorem RunM.calls1 {S : StD} {v0 v1 v2 v3 : AV} {nx : Nat} {H : Hp} {f : FuncId} {res : AV} (h : RunM S v0 v1 v2 v3 nx H) (hf : Hv.ACalls Try.prog f [stH S] res) (H' : Hp) : Hv.ACalls Try.prog f ([AV.agg [.lit (.int .i64 S.log), .lit (.int .i64 S.next), .lit (.int .i64 S.seq), v0, v1, v2, v3]].map (AV.view H')) res := by
  show Hv.ACalls _ _ [AV.agg [.lit (.int .i64 S.log), .lit (.int .i64 S.next), .lit (.int .i64 S.seq), AV.view1 H' v0, AV.view1 H' v1, AV.view1 H' v2, AV.view1 H' v3]] _
  rw [h.a0.view, h.a1.view, h.a2.view, h.a3.view]; exact hf
theorem RunM.calls2 {S : StD} {v0 v1 v2 v3 x : AV} {nx : Nat} {H : Hp} {f : FuncId} {res : AV} (h : RunM S v0 v1 v2 v3 nx H) (hf : Hv.ACalls Try.prog f [stH S, x] res) (hx : ∀ H', AV.view H' x = x) (H' : Hp) : Hv.ACalls Try.prog f ([AV.agg [.lit (.int .i64 S.log), .lit (.int .i64 S.next), .lit (.int .i64 S.seq), v0, v1, v2, v3], x].map (AV.view H')) res := by
  show Hv.ACalls _ _ [AV.agg [.lit (.int .i64 S.log), .lit (.int .i64 S.next), .lit (.int .i64 S.seq), AV.view1 H' v0, AV.view1 H' v1, AV.view1 H' v2, AV.view1 H' v3], AV.view H' x] _
  rw [h.a0.view, h.a1.view, h.a2.view, h.a3.view, hx]; exact hf
theorem EditRuns_h (row : List EdD) (key : ByteArray) : Hv.ACalls Try.prog 11 [.sl (row.map edL), .lit (.string key)] (.lit (.bool true)) := by
  refine acallsC_of (rs := [.tmp 4]) ⟨[0, 1, 4, 5, 6, 7, 8, 9, 10, 11, 12, 13, 14, 16, 26, 44, 73, 75, 101], [], [], [(9, [(0, [], []), (1, [], []), (2, [], []), (3, [], []), (4, [], []), (5, [0], [4, 3, 1, 2]), (6, [], [0, 5, 4, 3, 1, 2]), (7, [], []), (8, [], []), (9, [], []), (10, [0, 3, 4], []), (11, [], [10, 8, 6, 0, 1, 2, 3, 4, 5, 7]), (12, [], [9, 11, 0, 1, 2, 3, 4, 5, 6, 7, 8, 10])]), (10, [(0, [], []), (1, [], []), (2, [], []), (3, [], []), (4, [], []), (5, [], [0, 4, 3, 1, 2]), (6, [], []), (7, [], []), (8, [], []), (9, [0, 3, 4], []), (10, [], [9, 7, 5, 0, 1, 2, 3, 4, 6]), (11, [], [8, 10, 0, 1, 2, 3, 4, 5, 6, 7, 9])]), (11, [(0, [], []), (1, [], []), (2, [], []), (3, [], []), (4, [], []), (6, [], []), (5, [6], [4, 3, 2, 0, 1]), (7, [], [5, 6, 3, 4, 2, 0, 1]), (8, [], []), (9, [], [])]), (14, [(0, [], []), (1, [], []), (2, [1], [0]), (3, [], [1, 2, 0])]), (15, [(0, [], []), (2, [], []), (1, [2], [0]), (3, [], [1, 2, 0]), (4, [], []), (5, [], []), (6, [], []), (8, [], []), (7, [8], [6, 5, 4, 3, 1, 2, 0]), (9, [], [8, 7, 5, 6, 4, 3, 1, 2, 0]), (10, [], [7, 9, 5, 6, 8, 4, 3, 1, 2, 0]), (11, [], []), (12, [], []), (13, [], []), (14, [], []), (15, [], []), (18, [], []), (19, [], []), (16, [18], [14, 15, 13, 12, 10, 5, 11, 7, 9, 4, 3, 6, 8, 1, 2, 0]), (17, [18], [16, 13, 14, 15, 12, 10, 5, 11, 7, 9, 4, 3, 6, 8, 1, 2, 0]), (20, [], [18, 19, 17, 13, 16, 12, 10, 14, 15, 5, 11, 7, 9, 4, 3, 6, 8, 1, 2, 0]), (21, [], [17, 20, 13, 16, 18, 19, 12, 10, 14, 15, 5, 11, 7, 9, 4, 3, 6, 8, 1, 2, 0]), (22, [], []), (23, [], [])]), (19, [(0, [], []), (2, [], []), (1, [2], [0]), (3, [], [2, 1, 0]), (4, [], [1, 3, 0, 2]), (5, [], []), (6, [], []), (7, [], []), (8, [], []), (9, [], []), (10, [], []), (12, [], []), (11, [12], [10, 9, 8, 5, 7, 4, 6, 1, 3, 0, 2]), (13, [], [11, 12, 9, 10, 8, 5, 7, 4, 6, 1, 3, 0, 2]), (14, [], []), (15, [], [14, 13, 0, 1, 2, 3, 4, 5, 6, 7, 8, 9, 10, 11, 12])])], [15, 17]⟩ TOk mixed Try.func11 rfl rfl (by kernel_rfl) (by kernel_rfl) rfl (nid2 (noId_edits' row) (.lit _)) (.lit _) ?_
  simp only [push_cast, Nat.reduceBEq, Nat.reduceAdd, Nat.reduceEqDiff, reduceCtorEq, Nat.reduceLeDiff, Nat.reduceSub, Nat.reduceMul, Nat.reduceLT, Int.reduceEq, Int.reduceLT, Int.reduceLE, Int.reduceBEq, Int.reduceBNe, Int.reduceToNat, Int.reduceNeg, Int.reduceSub, Int.reduceAdd]
  refine callK edits_h ?_
  simp only [push_cast, Nat.reduceBEq, Nat.reduceAdd, Nat.reduceEqDiff, reduceCtorEq, Nat.reduceLeDiff, Nat.reduceSub, Nat.reduceMul, Nat.reduceLT, Int.reduceEq, Int.reduceLT, Int.reduceLE, Int.reduceBEq, Int.reduceBNe, Int.reduceToNat, Int.reduceNeg, Int.reduceSub, Int.reduceAdd]
  refine callK empty_h ?_
  simp only [push_cast, Nat.reduceBEq, Nat.reduceAdd, Nat.reduceEqDiff, reduceCtorEq, Nat.reduceLeDiff, Nat.reduceSub, Nat.reduceMul, Nat.reduceLT, Int.reduceEq, Int.reduceLT, Int.reduceLE, Int.reduceBEq, Int.reduceBNe, Int.reduceToNat, Int.reduceNeg, Int.reduceSub, Int.reduceAdd, stH]
  have hM0 : RunM emptyS (.lit (.slice none 0 0)) (.lit (.slice none 0 0)) (.lit (.slice none 0 0)) (.lit (.slice none 0 0)) 2 (upd (upd (fun _ => none) 0 (some (.cells (svC emptyS (.lit (.slice none 0 0)) (.lit (.slice none 0 0)) (.lit (.slice none 0 0)) (.lit (.slice none 0 0)))))) 1 (some (.cells (stCells emptyS)))) :=
    ⟨.inr ⟨rfl, rfl⟩, .inr ⟨rfl, rfl⟩, .inr ⟨rfl, rfl⟩, .inr ⟨rfl, rfl⟩, by omega, rfl, rfl⟩
  have hN0 : NumOk emptyS := ⟨by decide, by decide, by decide, by decide, by decide, by decide, by decide⟩
  refine cutK (fun x => ∃ (S : StD) (v0 v1 v2 v3 : AV) (nx : Nat) (H : Hp), x = ⟨[(5, .ptr 0 0), (6, .ptr 1 0)], H, nx⟩ ∧ RunM S v0 v1 v2 v3 nx H ∧ Wf0 S ∧ NumOk S) [5, 6] ?_ ?_
  · simp only [push_cast, Nat.reduceBEq, Nat.reduceAdd, Nat.reduceEqDiff, reduceCtorEq, Nat.reduceLeDiff, Nat.reduceSub, Nat.reduceMul, Nat.reduceLT, Int.reduceEq, Int.reduceLT, Int.reduceLE, Int.reduceBEq, Int.reduceBNe, Int.reduceToNat, Int.reduceNeg, Int.reduceSub, Int.reduceAdd]
    refine loopK (fun m x => ∃ (k : Nat) (S : StD) (v0 v1 v2 v3 : AV) (nx : Nat) (H : Hp), x = ⟨[(0, .sl (row.map edL)), (1, .lit (.string key)), (5, .ptr 0 0), (6, .ptr 1 0), (7, .lit (.int .i64 (k : Int)))], H, nx⟩ ∧ m = row.length - k ∧ k ≤ row.length ∧ k ≤ 30 ∧ RunM S v0 v1 v2 v3 nx H ∧ Wf0 S ∧ NumOk S) _ [0, 1, 5, 6, 7] (by exact ⟨0, emptyS, _, _, _, _, 2, _, rfl, rfl, by omega, by omega, ⟨hM0.a0, hM0.a1, hM0.a2, hM0.a3, hM0.n2, rfl, rfl⟩, empty_wf0, hN0⟩) ?_
    clear hM0 hN0
    rintro m _ ⟨k, S, v0, v1, v2, v3, nx, H, rfl, rfl, hk, hk30, hM, hW, hN⟩
    by_cases h : k < row.length
    · by_cases h30 : k < 30
      · obtain ⟨e, he⟩ : ∃ e, row[k]? = some e := ⟨_, List.getElem?_eq_getElem h⟩
        have hwk := wrap_nat (k := k) (by omega)
        have h30' : (k : Int) < 30 := by omega
        have n2 := hM.n2
        by_cases hg : 100 < e.gone.length
        · have hg' : (e.gone.length : Int) > 100 := by omega
          simp only [push_cast, Nat.reduceBEq, Nat.reduceAdd, Nat.reduceEqDiff, reduceCtorEq, Nat.reduceLeDiff, Nat.reduceSub, Nat.reduceMul, Nat.reduceLT, Int.reduceEq, Int.reduceLT, Int.reduceLE, Int.reduceBEq, Int.reduceBNe, Int.reduceToNat, Int.reduceNeg, Int.reduceSub, Int.reduceAdd, h, h30', he, edL, hg', hwk]
          exact ⟨_, by omega, k + 1, S, v0, v1, v2, v3, nx, H, rfl, rfl, by omega, by omega, hM, hW, hN⟩
        · have hg' : ¬ (e.gone.length : Int) > 100 := by omega
          by_cases hn : 100 < e.new.length
          · have hn' : (e.new.length : Int) > 100 := by omega
            simp only [push_cast, Nat.reduceBEq, Nat.reduceAdd, Nat.reduceEqDiff, reduceCtorEq, Nat.reduceLeDiff, Nat.reduceSub, Nat.reduceMul, Nat.reduceLT, Int.reduceEq, Int.reduceLT, Int.reduceLE, Int.reduceBEq, Int.reduceBNe, Int.reduceToNat, Int.reduceNeg, Int.reduceSub, Int.reduceAdd, h, h30', he, edL, hg', hn', hwk]
            exact ⟨_, by omega, k + 1, S, v0, v1, v2, v3, nx, H, rfl, rfl, by omega, by omega, hM, hW, hN⟩
          · have hn' : ¬ (e.new.length : Int) > 100 := by omega
            have r0 := hM.r0
            have r1 := hM.r1
            unfold svC at r0
            unfold stCells at r1
            have hl0 := few_lv hN.few
            have hto := to_h e (by omega) (by omega)
            have hAp := apply_h S e hW (fun i hi => Nat.le_trans (hl0 i hi) (by omega))
            have hDo := docApply_h S e (fun i hi => Nat.le_trans (hl0 i hi) (by omega))
            have hlT := docApply_lens (s := S) (e := e)
            have hWT := docApply_wf0 (e := e) hW
            have hNT := docApply_num (e := e) hN
            obtain ⟨D, hD⟩ : ∃ x, docApply S e = x := ⟨_, rfl⟩
            rw [hD] at hAp hDo hlT hWT hNT
            obtain ⟨T, f⟩ := D
            have hAp' := hM.calls2 hAp (fun _ => rfl)
            have hSt := state_h T (fun i hi => Nat.le_trans (hlT i hi) (by omega))
            have hSm := Same_refl T (fun i hi => Nat.le_trans (hlT i hi) (by omega))
            unfold edH at hto hAp' hDo
            unfold stH at hAp' hDo hSt hSm
            have e0 : (nx == 0) = false := neB (by omega)
            have e1 : (nx == 1) = false := neB (by omega)
            have e2 : (nx + 1 == 0) = false := neB (by omega)
            have e3 : (nx + 1 == 1) = false := neB (by omega)
            have e4 : (nx == nx + 1) = false := neB (by omega)
            have e5 : (nx + 1 == nx) = false := neB (by omega)
            simp only [push_cast, Nat.reduceBEq, Nat.reduceAdd, Nat.reduceEqDiff, reduceCtorEq, Nat.reduceLeDiff, Nat.reduceSub, Nat.reduceMul, Nat.reduceLT, Int.reduceEq, Int.reduceLT, Int.reduceLE, Int.reduceBEq, Int.reduceBNe, Int.reduceToNat, Int.reduceNeg, Int.reduceSub, Int.reduceAdd, h, h30', he, edL, hg', hn', r0]
            refine callD hto ?_
            simp only [push_cast, Nat.reduceBEq, Nat.reduceAdd, Nat.reduceEqDiff, reduceCtorEq, Nat.reduceLeDiff, Nat.reduceSub, Nat.reduceMul, Nat.reduceLT, Int.reduceEq, Int.reduceLT, Int.reduceLE, Int.reduceBEq, Int.reduceBNe, Int.reduceToNat, Int.reduceNeg, Int.reduceSub, Int.reduceAdd, r0, he, edL]
            refine callD (hAp' _) ?_
            simp only [push_cast, Nat.reduceBEq, Nat.reduceAdd, Nat.reduceEqDiff, reduceCtorEq, Nat.reduceLeDiff, Nat.reduceSub, Nat.reduceMul, Nat.reduceLT, Int.reduceEq, Int.reduceLT, Int.reduceLE, Int.reduceBEq, Int.reduceBNe, Int.reduceToNat, Int.reduceNeg, Int.reduceSub, Int.reduceAdd, r0, r1, he, edL, e0, e1, e2, e3, e4, e5]
            refine callD hDo ?_
            simp only [push_cast, Nat.reduceBEq, Nat.reduceAdd, Nat.reduceEqDiff, reduceCtorEq, Nat.reduceLeDiff, Nat.reduceSub, Nat.reduceMul, Nat.reduceLT, Int.reduceEq, Int.reduceLT, Int.reduceLE, Int.reduceBEq, Int.reduceBNe, Int.reduceToNat, Int.reduceNeg, Int.reduceSub, Int.reduceAdd, r0, r1, he, edL, e0, e1, e2, e3, e4, e5]
            refine callD hSt ?_
            simp only [push_cast, Nat.reduceBEq, Nat.reduceAdd, Nat.reduceEqDiff, reduceCtorEq, Nat.reduceLeDiff, Nat.reduceSub, Nat.reduceMul, Nat.reduceLT, Int.reduceEq, Int.reduceLT, Int.reduceLE, Int.reduceBEq, Int.reduceBNe, Int.reduceToNat, Int.reduceNeg, Int.reduceSub, Int.reduceAdd, r0, r1, e0, e1, e2, e3, e4, e5]
            refine callD hSm ?_
            simp only [push_cast, Nat.reduceBEq, Nat.reduceAdd, Nat.reduceEqDiff, reduceCtorEq, Nat.reduceLeDiff, Nat.reduceSub, Nat.reduceMul, Nat.reduceLT, Int.reduceEq, Int.reduceLT, Int.reduceLE, Int.reduceBEq, Int.reduceBNe, Int.reduceToNat, Int.reduceNeg, Int.reduceSub, Int.reduceAdd, r0, r1, e0, e1, e2, e3, e4, e5]
            refine cutK (fun x => ∃ (S : StD) (v0 v1 v2 v3 : AV) (nx : Nat) (H : Hp), x = ⟨[(0, .sl (row.map edL)), (1, .lit (.string key)), (5, .ptr 0 0), (6, .ptr 1 0), (7, .lit (.int .i64 (k : Int)))], H, nx⟩ ∧ RunM S v0 v1 v2 v3 nx H ∧ Wf0 S ∧ NumOk S) [0, 1, 5, 6, 7] ?_ ?_
            · by_cases hf : f = 0
              · subst hf
                have e6 : (0 == nx + 1) = false := neB (by omega)
                have e7 : (0 == nx) = false := neB (by omega)
                simp only [push_cast, Nat.reduceBEq, Nat.reduceAdd, Nat.reduceEqDiff, reduceCtorEq, Nat.reduceLeDiff, Nat.reduceSub, Nat.reduceMul, Nat.reduceLT, Int.reduceEq, Int.reduceLT, Int.reduceLE, Int.reduceBEq, Int.reduceBNe, Int.reduceToNat, Int.reduceNeg, Int.reduceSub, Int.reduceAdd, r0, r1, e0, e1, e2, e3, e4, e5, e6, e7]
                refine ⟨T, _, _, _, _, nx + 1 + 1, _, rfl, ⟨.inl rfl, .inl rfl, .inl rfl, .inl rfl, by omega, ?_, ?_⟩, hWT rfl, hNT rfl⟩
                · rfl
                · rfl
              · have hf' : (f == 0) = false := by simpa using hf
                simp only [push_cast, Nat.reduceBEq, Nat.reduceAdd, Nat.reduceEqDiff, reduceCtorEq, Nat.reduceLeDiff, Nat.reduceSub, Nat.reduceMul, Nat.reduceLT, Int.reduceEq, Int.reduceLT, Int.reduceLE, Int.reduceBEq, Int.reduceBNe, Int.reduceToNat, Int.reduceNeg, Int.reduceSub, Int.reduceAdd, r0, r1, e0, e1, e2, e3, e4, e5, hf']
                refine ⟨S, v0, v1, v2, v3, nx + 1 + 1, _, rfl, ⟨hM.a0, hM.a1, hM.a2, hM.a3, by omega, ?_, ?_⟩, hW, hN⟩
                · (repeat rw [upd_other (by omega)]); exact hM.r0
                · (repeat rw [upd_other (by omega)]); exact hM.r1
            · clear hM hW hN r0 r1 hl0 hto hAp hDo hlT hWT hNT hAp' hSt hSm e0 e1 e2 e3 e4 e5 n2
              rintro _ ⟨S, v0, v1, v2, v3, nx, H, rfl, hM, hW, hN⟩
              have r0 := hM.r0
              have r1 := hM.r1
              unfold svC at r0
              unfold stCells at r1
              have hl0 := few_lv hN.few
              have hl1 : ∀ i, i < 4 → (S.lv i).length ≤ 100000 := fun i hi => Nat.le_trans (hl0 i hi) (by omega)
              have hfl : (filesS S).length ≤ 1000000 := by
                unfold filesS
                rw [(sortZ_perm _).length_eq, List.length_map]
                have := hN.few
                have : (allS S).length = countS S := by unfold allS countS; simp; omega
                omega
              have hhl : (holdL S key).length ≤ 1000000 := by
                have h1 := List.length_filter_le (holdsB key) ((S.lv 0).reverse ++ S.lv 1 ++ S.lv 2 ++ S.lv 3)
                have h2 := hl0 0 (by omega)
                have h3 := hl0 1 (by omega)
                have h4 := hl0 2 (by omega)
                have h5 := hl0 3 (by omega)
                unfold holdL
                simp only [List.length_append, List.length_reverse] at h1
                omega
              have k1 := hM.calls1 (state_h S fun i hi => Nat.le_trans (hl0 i hi) (by omega))
              have k2 := Same_refl S fun i hi => Nat.le_trans (hl0 i hi) (by omega)
              have k3 := hM.calls1 (files_h S hW.uq hl1)
              have k4 := docFiles_h S hl1
              have k5 := Ints_refl (filesS S) hfl
              have k6 := hM.calls2 (holding_h S key hl1) (fun _ => rfl)
              have k7 := metas_h (holdL S key) hhl
              have k8 := docHolding_h S key hl1
              have k9 := Metas_refl (holdL S key) hhl
              unfold stH at k1 k2 k4 k8
              simp only [push_cast, Nat.reduceBEq, Nat.reduceAdd, Nat.reduceEqDiff, reduceCtorEq, Nat.reduceLeDiff, Nat.reduceSub, Nat.reduceMul, Nat.reduceLT, Int.reduceEq, Int.reduceLT, Int.reduceLE, Int.reduceBEq, Int.reduceBNe, Int.reduceToNat, Int.reduceNeg, Int.reduceSub, Int.reduceAdd, r0, r1]
              refine callD (k1 _) ?_
              simp only [push_cast, Nat.reduceBEq, Nat.reduceAdd, Nat.reduceEqDiff, reduceCtorEq, Nat.reduceLeDiff, Nat.reduceSub, Nat.reduceMul, Nat.reduceLT, Int.reduceEq, Int.reduceLT, Int.reduceLE, Int.reduceBEq, Int.reduceBNe, Int.reduceToNat, Int.reduceNeg, Int.reduceSub, Int.reduceAdd, r0, r1]
              refine callD k2 ?_
              simp only [push_cast, Nat.reduceBEq, Nat.reduceAdd, Nat.reduceEqDiff, reduceCtorEq, Nat.reduceLeDiff, Nat.reduceSub, Nat.reduceMul, Nat.reduceLT, Int.reduceEq, Int.reduceLT, Int.reduceLE, Int.reduceBEq, Int.reduceBNe, Int.reduceToNat, Int.reduceNeg, Int.reduceSub, Int.reduceAdd, r0, r1]
              refine callD (k3 _) ?_
              simp only [push_cast, Nat.reduceBEq, Nat.reduceAdd, Nat.reduceEqDiff, reduceCtorEq, Nat.reduceLeDiff, Nat.reduceSub, Nat.reduceMul, Nat.reduceLT, Int.reduceEq, Int.reduceLT, Int.reduceLE, Int.reduceBEq, Int.reduceBNe, Int.reduceToNat, Int.reduceNeg, Int.reduceSub, Int.reduceAdd, r0, r1]
              refine callD k4 ?_
              simp only [push_cast, Nat.reduceBEq, Nat.reduceAdd, Nat.reduceEqDiff, reduceCtorEq, Nat.reduceLeDiff, Nat.reduceSub, Nat.reduceMul, Nat.reduceLT, Int.reduceEq, Int.reduceLT, Int.reduceLE, Int.reduceBEq, Int.reduceBNe, Int.reduceToNat, Int.reduceNeg, Int.reduceSub, Int.reduceAdd, r0, r1]
              refine callD k5 ?_
              simp only [push_cast, Nat.reduceBEq, Nat.reduceAdd, Nat.reduceEqDiff, reduceCtorEq, Nat.reduceLeDiff, Nat.reduceSub, Nat.reduceMul, Nat.reduceLT, Int.reduceEq, Int.reduceLT, Int.reduceLE, Int.reduceBEq, Int.reduceBNe, Int.reduceToNat, Int.reduceNeg, Int.reduceSub, Int.reduceAdd, r0, r1]
              refine callD (k6 _) ?_
              simp only [push_cast, Nat.reduceBEq, Nat.reduceAdd, Nat.reduceEqDiff, reduceCtorEq, Nat.reduceLeDiff, Nat.reduceSub, Nat.reduceMul, Nat.reduceLT, Int.reduceEq, Int.reduceLT, Int.reduceLE, Int.reduceBEq, Int.reduceBNe, Int.reduceToNat, Int.reduceNeg, Int.reduceSub, Int.reduceAdd, r0, r1]
              refine callD k7 ?_
              simp only [push_cast, Nat.reduceBEq, Nat.reduceAdd, Nat.reduceEqDiff, reduceCtorEq, Nat.reduceLeDiff, Nat.reduceSub, Nat.reduceMul, Nat.reduceLT, Int.reduceEq, Int.reduceLT, Int.reduceLE, Int.reduceBEq, Int.reduceBNe, Int.reduceToNat, Int.reduceNeg, Int.reduceSub, Int.reduceAdd, r0, r1]
              refine callD k8 ?_
              simp only [push_cast, Nat.reduceBEq, Nat.reduceAdd, Nat.reduceEqDiff, reduceCtorEq, Nat.reduceLeDiff, Nat.reduceSub, Nat.reduceMul, Nat.reduceLT, Int.reduceEq, Int.reduceLT, Int.reduceLE, Int.reduceBEq, Int.reduceBNe, Int.reduceToNat, Int.reduceNeg, Int.reduceSub, Int.reduceAdd, r0, r1]
              refine callD k9 ?_
              simp only [push_cast, Nat.reduceBEq, Nat.reduceAdd, Nat.reduceEqDiff, reduceCtorEq, Nat.reduceLeDiff, Nat.reduceSub, Nat.reduceMul, Nat.reduceLT, Int.reduceEq, Int.reduceLT, Int.reduceLE, Int.reduceBEq, Int.reduceBNe, Int.reduceToNat, Int.reduceNeg, Int.reduceSub, Int.reduceAdd, r0, r1, hwk]
              exact ⟨_, by omega, k + 1, S, v0, v1, v2, v3, nx, H, rfl, rfl, by omega, by omega, hM, hW, hN⟩
      · have h30' : ¬ (k : Int) < 30 := by omega
        simp only [push_cast, Nat.reduceBEq, Nat.reduceAdd, Nat.reduceEqDiff, reduceCtorEq, Nat.reduceLeDiff, Nat.reduceSub, Nat.reduceMul, Nat.reduceLT, Int.reduceEq, Int.reduceLT, Int.reduceLE, Int.reduceBEq, Int.reduceBNe, Int.reduceToNat, Int.reduceNeg, Int.reduceSub, Int.reduceAdd, h, h30']
        exact ⟨S, v0, v1, v2, v3, nx, H, rfl, hM, hW, hN⟩
    · simp only [push_cast, Nat.reduceBEq, Nat.reduceAdd, Nat.reduceEqDiff, reduceCtorEq, Nat.reduceLeDiff, Nat.reduceSub, Nat.reduceMul, Nat.reduceLT, Int.reduceEq, Int.reduceLT, Int.reduceLE, Int.reduceBEq, Int.reduceBNe, Int.reduceToNat, Int.reduceNeg, Int.reduceSub, Int.reduceAdd, h]
      exact ⟨S, v0, v1, v2, v3, nx, H, rfl, hM, hW, hN⟩
  · clear hM0 hN0
    rintro _ ⟨S, v0, v1, v2, v3, nx, H, rfl, hM, hW, hN⟩
    have r0 := hM.r0
    have r1 := hM.r1
    have n2 := hM.n2
    unfold svC at r0
    unfold stCells at r1
    have hl0 := few_lv hN.few
    have hl1 : ∀ i, i < 4 → (S.lv i).length ≤ 100000 := fun i hi => Nat.le_trans (hl0 i hi) (by omega)
    have hwl : (wholeE S).new.length ≤ 1000000 := by
      show (wholeTo S 4).length ≤ _
      rw [whole_len]; have := hN.few; omega
    have k1 := hM.calls1 (whole_h S hl1)
    have k2 := apply_h emptyS (wholeE S) empty_wf0 (fun i _ => Nat.zero_le _)
    obtain ⟨w1, w2, w3, w4, w5⟩ := whole_law hW hN
    obtain ⟨D, hD⟩ : ∃ x, docApply emptyS (wholeE S) = x := ⟨_, rfl⟩
    rw [hD] at k2 w1 w2 w3 w4 w5
    obtain ⟨T, f⟩ := D
    simp only at w1 w2 w3 w4 w5
    subst w1
    have hTS : stH T = stH S := by unfold stH; rw [w2, w3, w4, w5 0 (by omega), w5 1 (by omega), w5 2 (by omega), w5 3 (by omega)]
    have k2 : Hv.ACalls Try.prog 31 [stH emptyS, edH (wholeE S)] (.tup [stH S, .lit (.int .i64 0)]) := by rw [← hTS]; exact k2
    have k3 := from_h (wholeE S) (Nat.zero_le _) hwl
    have k4 := docWhole_h S hl1
    have k5 := SameEdit_refl (wholeE S) (Nat.zero_le _) hwl
    have k6 := state_h S fun i hi => Nat.le_trans (hl0 i hi) (by omega)
    have k7 := Same_refl S fun i hi => Nat.le_trans (hl0 i hi) (by omega)
    unfold edH at k1 k2 k3 k4 k5
    unfold stH at k2 k4 k6 k7
    have e0 : (nx == 0) = false := neB (by omega)
    have e1 : (nx == 1) = false := neB (by omega)
    have e2 : (nx + 1 == 0) = false := neB (by omega)
    have e3 : (nx + 1 == 1) = false := neB (by omega)
    have e4 : (nx == nx + 1) = false := neB (by omega)
    have e5 : (nx + 1 == nx) = false := neB (by omega)
    simp only [push_cast, Nat.reduceBEq, Nat.reduceAdd, Nat.reduceEqDiff, reduceCtorEq, Nat.reduceLeDiff, Nat.reduceSub, Nat.reduceMul, Nat.reduceLT, Int.reduceEq, Int.reduceLT, Int.reduceLE, Int.reduceBEq, Int.reduceBNe, Int.reduceToNat, Int.reduceNeg, Int.reduceSub, Int.reduceAdd, r0, r1]
    refine callK (k1 _) ?_
    simp only [push_cast, Nat.reduceBEq, Nat.reduceAdd, Nat.reduceEqDiff, reduceCtorEq, Nat.reduceLeDiff, Nat.reduceSub, Nat.reduceMul, Nat.reduceLT, Int.reduceEq, Int.reduceLT, Int.reduceLE, Int.reduceBEq, Int.reduceBNe, Int.reduceToNat, Int.reduceNeg, Int.reduceSub, Int.reduceAdd, r0, r1, e0, e1, e2, e3, e4, e5]
    refine callK k2 ?_
    simp only [push_cast, Nat.reduceBEq, Nat.reduceAdd, Nat.reduceEqDiff, reduceCtorEq, Nat.reduceLeDiff, Nat.reduceSub, Nat.reduceMul, Nat.reduceLT, Int.reduceEq, Int.reduceLT, Int.reduceLE, Int.reduceBEq, Int.reduceBNe, Int.reduceToNat, Int.reduceNeg, Int.reduceSub, Int.reduceAdd, r0, r1, e0, e1, e2, e3, e4, e5]
    refine callD k3 ?_
    simp only [push_cast, Nat.reduceBEq, Nat.reduceAdd, Nat.reduceEqDiff, reduceCtorEq, Nat.reduceLeDiff, Nat.reduceSub, Nat.reduceMul, Nat.reduceLT, Int.reduceEq, Int.reduceLT, Int.reduceLE, Int.reduceBEq, Int.reduceBNe, Int.reduceToNat, Int.reduceNeg, Int.reduceSub, Int.reduceAdd, r0, r1, e0, e1, e2, e3, e4, e5]
    refine callD k4 ?_
    simp only [push_cast, Nat.reduceBEq, Nat.reduceAdd, Nat.reduceEqDiff, reduceCtorEq, Nat.reduceLeDiff, Nat.reduceSub, Nat.reduceMul, Nat.reduceLT, Int.reduceEq, Int.reduceLT, Int.reduceLE, Int.reduceBEq, Int.reduceBNe, Int.reduceToNat, Int.reduceNeg, Int.reduceSub, Int.reduceAdd, r0, r1, e0, e1, e2, e3, e4, e5]
    refine callD k5 ?_
    simp only [push_cast, Nat.reduceBEq, Nat.reduceAdd, Nat.reduceEqDiff, reduceCtorEq, Nat.reduceLeDiff, Nat.reduceSub, Nat.reduceMul, Nat.reduceLT, Int.reduceEq, Int.reduceLT, Int.reduceLE, Int.reduceBEq, Int.reduceBNe, Int.reduceToNat, Int.reduceNeg, Int.reduceSub, Int.reduceAdd, r0, r1, e0, e1, e2, e3, e4, e5]
    refine callD k6 ?_
    simp only [push_cast, Nat.reduceBEq, Nat.reduceAdd, Nat.reduceEqDiff, reduceCtorEq, Nat.reduceLeDiff, Nat.reduceSub, Nat.reduceMul, Nat.reduceLT, Int.reduceEq, Int.reduceLT, Int.reduceLE, Int.reduceBEq, Int.reduceBNe, Int.reduceToNat, Int.reduceNeg, Int.reduceSub, Int.reduceAdd, r0, r1, e0, e1, e2, e3, e4, e5]
    refine callD k7 ?_
    simp only [push_cast, Nat.reduceBEq, Nat.reduceAdd, Nat.reduceEqDiff, reduceCtorEq, Nat.reduceLeDiff, Nat.reduceSub, Nat.reduceMul, Nat.reduceLT, Int.reduceEq, Int.reduceLT, Int.reduceLE, Int.reduceBEq, Int.reduceBNe, Int.reduceToNat, Int.reduceNeg, Int.reduceSub, Int.reduceAdd, r0, r1, e0, e1, e2, e3, e4, e5]
end Go.Proofs.Ytheanmfdfoefoaa
