/- Chapter 17: rows of edits, and all tables as one edit; in plain Lean, no program in sight. -/
import Derived.Test.YtheanmfdfoefoaaEdOrdP
import Derived.Test.YtheanmfdfoefoaaEdDH
set_option linter.unusedVariables false
set_option linter.unusedSimpArgs false
namespace Go.Proofs.Ytheanmfdfoefoaa
open Go Go.RowKit
/-- Numbers that an edit may tell. -/
structure NumOk (s : StD) : Prop where
  l1 : 1 ≤ s.log
  l2 : s.log ≤ 1000000
  n1 : 1 ≤ s.next
  n2 : s.next ≤ 1000000
  q1 : 0 ≤ s.seq
  q2 : s.seq ≤ 72057594037927935
  few : countS s ≤ 1000
theorem few_lv {s : StD} (h : countS s ≤ 1000) : ∀ n, n < 4 → (s.lv n).length ≤ 1000 := by
  intro n hn
  unfold countS at h
  obtain rfl | rfl | rfl | rfl : n = 0 ∨ n = 1 ∨ n = 2 ∨ n = 3 := by omega
  · omega
  · omega
  · omega
  · omega
theorem applyGo_ok {s : StD} {e : EdD} : ((applyGo s e).2 = 0 ∧ ∃ s2, goneS s e.gone ≠ none ∧ (∀ s1, goneS s e.gone = some s1 → newS s1 e.new = some s2) ∧ (applyGo s e).1 = tellS s2 e ∧ countS s2 ≤ 1000 ∧ s2.log = s.log ∧ s2.next = s.next ∧ s2.seq = s.seq) ∨ ((applyGo s e).2 ≠ 0 ∧ (applyGo s e).1 = noS) := by
  unfold applyGo
  cases hg : goneS s e.gone with
  | none => exact .inr ⟨by simp, rfl⟩
  | some s1 =>
    simp only
    unfold applyNew
    cases hn : newS s1 e.new with
    | none => exact .inr ⟨by simp, rfl⟩
    | some s2 =>
      simp only
      unfold applyEnd
      by_cases hc : 1000 < countS s2
      · rw [if_pos hc]; exact .inr ⟨by simp, rfl⟩
      · rw [if_neg hc]
        by_cases ha : apartS s2 = false
        · rw [if_pos ha]; exact .inr ⟨by simp, rfl⟩
        · rw [if_neg ha]
          obtain ⟨a1, a2, a3⟩ := goneS_nums _ _ _ hg
          obtain ⟨b1, b2, b3⟩ := newS_nums _ _ _ hn
          exact .inl ⟨rfl, s2, by simp, fun s1' h => by injection h with h; rw [← h]; exact hn, rfl, by omega, by rw [b1, a1], by rw [b2, a2], by rw [b3, a3]⟩
theorem docApply_cases (s : StD) (e : EdD) : ((docApply s e).2 = 0 ∧ rightB e = true ∧ docApply s e = applyGo s e) ∨ ((docApply s e).2 ≠ 0 ∧ (docApply s e).1 = noS) := by
  unfold docApply
  by_cases hr : rightB e = false
  · rw [if_pos hr]; exact .inr ⟨by simp, rfl⟩
  · rw [if_neg hr]
    by_cases hb : badB s e = true
    · rw [if_pos hb]; exact .inr ⟨by simp, rfl⟩
    · rw [if_neg hb]
      rcases applyGo_ok (s := s) (e := e) with h | h
      · exact .inl ⟨h.1, by simpa using hr, rfl⟩
      · exact .inr h
theorem docApply_num {s : StD} {e : EdD} (h : NumOk s) (h0 : (docApply s e).2 = 0) : NumOk (docApply s e).1 := by
  rcases docApply_cases s e with ⟨_, hr, hd⟩ | ⟨h1, _⟩
  · rw [hd] at h0 ⊢
    rcases applyGo_ok (s := s) (e := e) with ⟨_, s2, _, _, ht, hc, e1, e2, e3⟩ | ⟨h1, _⟩
    · have hh := (headB_iff e).1 (by unfold rightB at hr; simp only [Bool.and_eq_true] at hr; exact hr.1.1)
      obtain ⟨⟨a1, a2, a3⟩, ⟨b1, b2, b3⟩, ⟨c1, c2⟩, _, _⟩ := hh
      rw [ht]
      obtain ⟨l1, l2, n1, n2, q1, q2, _⟩ := h
      refine ⟨?_, ?_, ?_, ?_, ?_, ?_, hc⟩ <;> simp only [tellS, told, e1, e2, e3] <;> split <;> omega
    · exact absurd h0 h1
  · exact absurd h0 h1
theorem docApply_lens {s : StD} {e : EdD} : ∀ n, n < 4 → ((docApply s e).1.lv n).length ≤ 1000 := by
  rcases docApply_cases s e with ⟨h0, hr, hd⟩ | ⟨_, h1⟩
  · rw [hd] at h0 ⊢
    rcases applyGo_ok (s := s) (e := e) with ⟨_, s2, _, _, ht, hc, _⟩ | ⟨h1, _⟩
    · rw [ht]; exact few_lv (s := tellS s2 e) hc
    · exact absurd h0 h1
  · rw [h1]; intro n _; exact Nat.zero_le _
/-- The levels of an answer don't hang on the numbers. -/
theorem applyGo_lv {s : StD} {e e' : EdD} (hg : e.gone = e'.gone) (hn : e.new = e'.new) : (applyGo s e).2 = (applyGo s e').2 ∧ (applyGo s e).1.lv = (applyGo s e').1.lv := by
  unfold applyGo applyNew applyEnd
  rw [hg, hn]
  cases goneS s e'.gone with
  | none => exact ⟨rfl, rfl⟩
  | some s1 =>
    simp only
    cases newS s1 e'.new with
    | none => exact ⟨rfl, rfl⟩
    | some s2 =>
      simp only
      by_cases hc : 1000 < countS s2
      · rw [if_pos hc, if_pos hc]; exact ⟨rfl, rfl⟩
      · rw [if_neg hc, if_neg hc]
        by_cases ha : apartS s2 = false
        · rw [if_pos ha, if_pos ha]; exact ⟨rfl, rfl⟩
        · rw [if_neg ha, if_neg ha]; exact ⟨rfl, rfl⟩
theorem filter_lv (l : List MetaD) (k n : Nat) : ((l.map fun m => (⟨(k : Int), m⟩ : AddD)).filter fun a => a.level.toNat == n).map (·.t) = if k = n then l else [] := by
  induction l with
  | nil => split <;> rfl
  | cons m l ih =>
    rw [List.map_cons, List.filter_cons]
    have e : ((⟨(k : Int), m⟩ : AddD).level.toNat == n) = (k == n) := rfl
    by_cases h : k = n
    · subst h
      rw [e, beq_self_eq_true, if_pos rfl, List.map_cons, ih, if_pos rfl, if_pos rfl]
    · have hb : (k == n) = false := beq_eq_false_iff_ne.2 h
      rw [e, hb, if_neg (by decide), ih, if_neg h, if_neg h]
theorem whole_lvT (s : StD) {n : Nat} (hn : n < 4) : lvT (wholeTo s 4) n = s.lv n := by
  unfold lvT wholeTo wholeTo wholeTo wholeTo wholeTo
  simp only [List.filter_append, List.map_append, filter_lv, List.nil_append, List.filter_nil, List.map_nil]
  obtain rfl | rfl | rfl | rfl : n = 0 ∨ n = 1 ∨ n = 2 ∨ n = 3 := by omega
  · simp
  · simp
  · simp
  · simp
theorem whole_files (s : StD) : filesA (wholeTo s 4) = (allS s).map (·.file) := by
  unfold filesA allS
  simp [wholeTo, List.map_append, List.map_map, Function.comp_def]
theorem whole_ok {s : StD} (h : Wf0 s) : OkA (wholeTo s 4) := by
  refine ⟨fun a ha => ?_, by rw [whole_files]; exact h.uq, fun n h1 h4 => ?_⟩
  · have key : ∀ k, k < 4 → ∀ m ∈ s.lv k, addB ⟨(k : Int), m⟩ = true := fun k hk m hm => by
      unfold addB
      rw [h.good k m hm]
      simp; omega
    simp only [wholeTo, List.nil_append, List.mem_append, List.mem_map] at ha
    rcases ha with ((⟨m, hm, rfl⟩ | ⟨m, hm, rfl⟩) | ⟨m, hm, rfl⟩) | ⟨m, hm, rfl⟩
    · exact key 0 (by omega) m hm
    · exact key 1 (by omega) m hm
    · exact key 2 (by omega) m hm
    · exact key 3 (by omega) m hm
  · rw [whole_lvT s h4]
    exact (apart_disj (h.mid.srt n h1 h4) fun m hm => h.good n m hm).1 (apartS_lv h.ap (by omega) h4)
theorem whole_len (s : StD) : (wholeTo s 4).length = countS s := by
  simp only [wholeTo, List.length_append, List.length_map, List.length_nil, countS]; omega
theorem whole_right {s : StD} (h : Wf0 s) (hn : NumOk s) : rightB (wholeE s) = true := by
  have hh : headB (wholeE s) = true := by
    rw [headB_iff]
    have := hn.few
    have h2 := whole_len s
    obtain ⟨l1, l2, n1, n2, q1, q2, _⟩ := hn
    refine ⟨⟨?_, ?_, ?_⟩, ⟨?_, ?_, ?_⟩, ⟨?_, ?_⟩, Nat.zero_le _, ?_⟩
    · show -1 ≤ s.log; omega
    · show s.log ≠ 0; omega
    · exact l2
    · show -1 ≤ s.next; omega
    · show s.next ≠ 0; omega
    · exact n2
    · show -1 ≤ s.seq; omega
    · exact q2
    · show (wholeTo s 4).length ≤ 1000; omega
  unfold rightB
  rw [hh]
  have := List.all_eq_true.2 (whole_ok h).add
  show (true && true && (wholeTo s 4).all addB) = true
  rw [this]; rfl
/-- The edit that makes a state of the empty one. -/
theorem whole_law {s : StD} (h : Wf0 s) (hn : NumOk s) : (docApply emptyS (wholeE s)).2 = 0 ∧ (docApply emptyS (wholeE s)).1.log = s.log ∧ (docApply emptyS (wholeE s)).1.next = s.next ∧ (docApply emptyS (wholeE s)).1.seq = s.seq ∧ ∀ n, n < 4 → (docApply emptyS (wholeE s)).1.lv n = s.lv n := by
  have hr := whole_right h hn
  have hb : badB emptyS (wholeE s) = false := by
    have a : ¬ s.log < 1 := by have := hn.l1; omega
    have b : ¬ s.next < 1 := by have := hn.n1; omega
    have c : ¬ s.seq < 0 := by have := hn.q1; omega
    show ((decide (0 ≤ s.log) && decide (s.log < 1)) || (decide (0 ≤ s.next) && decide (s.next < 1)) || (decide (0 ≤ s.seq) && decide (s.seq < 0))) = false
    simp [a, b, c]
  have hd : docApply emptyS (wholeE s) = applyGo emptyS (wholeE s) := by
    unfold docApply
    rw [if_neg (by rw [hr]; decide), if_neg (by rw [hb]; decide)]
  have hlen : ([] : List AddD).length + (wholeTo s 4).length ≤ 1000 := by rw [whole_len]; have := hn.few; simpa using this
  have hok := whole_ok h
  obtain ⟨L1, L2⟩ := add_law empty_wf0 hasT_empty okA_nil hlen
  have h0 := L2 (by simpa using hok)
  obtain ⟨_, hT, _⟩ := L1 h0
  have hd' : docApply emptyS (addE (wholeTo s 4)) = applyGo emptyS (addE (wholeTo s 4)) := by
    rcases docApply_cases emptyS (addE (wholeTo s 4)) with ⟨_, _, h⟩ | ⟨h, _⟩
    · exact h
    · exact absurd h0 h
  obtain ⟨e1, e2⟩ := applyGo_lv (s := emptyS) (e := wholeE s) (e' := addE (wholeTo s 4)) rfl rfl
  have hw := docApply_wf0 empty_wf0 h0
  have hT2 : HasT s (wholeTo s 4) := fun n hn => by
    have := whole_lvT s hn
    unfold lvT at this
    rw [this]
  have hlv := hasT_eq hw h hT hT2 (by simp)
  rw [hd'] at h0 hlv
  rw [hd]
  have g0 : (applyGo emptyS (wholeE s)).2 = 0 := e1.trans h0
  refine ⟨g0, ?_⟩
  rcases applyGo_ok (s := emptyS) (e := wholeE s) with ⟨_, s2, _, _, ht, hc, f1, f2, f3⟩ | ⟨g1, _⟩
  · refine ⟨?_, ?_, ?_, fun n hn4 => by rw [e2]; exact hlv n hn4⟩
    · rw [ht]; show told s.log s2.log = s.log; unfold told; rw [if_pos (by have := hn.l1; omega)]
    · rw [ht]; show told s.next s2.next = s.next; unfold told; rw [if_pos (by have := hn.n1; omega)]
    · rw [ht]; show told s.seq s2.seq = s.seq; unfold told; rw [if_pos hn.q1]
  · exact absurd g0 g1
end Go.Proofs.Ytheanmfdfoefoaa
