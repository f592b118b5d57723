/- The order of texts; tables that lie apart; states in which no file is twice. Plain: no program in sight. -/
import Derived.Test.YtheanmfdfoefoaaPickDoc
import Derived.Sort.Walk0
import Derived.Lib.Strings
namespace Go.Proofs.Ytheanmfdfoefoaa
open Go Go.RowKit

theorem slt_iff (a b : ByteArray) : slt a b = true ↔ a.toList < b.toList := by unfold slt; rw [bytesLess_eq]; simp
theorem slt_no (a b : ByteArray) : slt a b = false ↔ b.toList ≤ a.toList := by
  rw [← List.not_lt, ← slt_iff]; simp
theorem sle_iff (a b : ByteArray) : sle a b = true ↔ a.toList ≤ b.toList := by
  unfold sle; rw [bytesLess_eq]
  simp only [Bool.or_eq_true, decide_eq_true_eq, beq_iff_eq]
  constructor
  · rintro (h | h)
    · exact List.not_lt.1 fun h' => List.lt_irrefl _ (List.lt_trans h h')
    · rw [h]; exact List.not_lt.1 (List.lt_irrefl _)
  · intro h
    by_cases h1 : a.toList < b.toList
    · exact .inl h1
    · exact .inr (List.le_antisymm h (List.not_lt.1 h1))
theorem sle_not (a b : ByteArray) : sle a b = !slt b a := by
  rw [Bool.eq_iff_iff, sle_iff]; simp only [Bool.not_eq_true', slt_no]
theorem sle_refl (a : ByteArray) : sle a a = true := (sle_iff _ _).2 (List.not_lt.1 (List.lt_irrefl _))
theorem sle_trans {a b c : ByteArray} (h : sle a b = true) (h' : sle b c = true) : sle a c = true := (sle_iff _ _).2 (List.le_trans ((sle_iff _ _).1 h) ((sle_iff _ _).1 h'))
theorem sle_total (a b : ByteArray) : sle a b = true ∨ sle b a = true := by rw [sle_iff, sle_iff]; exact List.le_total _ _
theorem minS_le (a b : ByteArray) : sle (Lib.minS a b) a = true ∧ sle (Lib.minS a b) b = true := by
  unfold Lib.minS
  split
  · rename_i h
    refine ⟨sle_refl _, (sle_iff _ _).2 ?_⟩
    rw [Lib.toList_data, Lib.toList_data]
    rcases h with h | h
    · exact List.not_lt.1 fun h' => List.lt_irrefl _ (List.lt_trans h h')
    · rw [h]; exact List.not_lt.1 (List.lt_irrefl _)
  · rename_i h
    refine ⟨(sle_iff _ _).2 ?_, sle_refl _⟩
    rw [Lib.toList_data, Lib.toList_data]
    exact List.not_lt.1 fun h' => h (.inl h')
theorem maxS_ge (a b : ByteArray) : sle a (Lib.maxS a b) = true ∧ sle b (Lib.maxS a b) = true := by
  unfold Lib.maxS
  split
  · rename_i h
    refine ⟨(sle_iff _ _).2 ?_, sle_refl _⟩
    rw [Lib.toList_data, Lib.toList_data]
    exact List.not_lt.1 fun h' => List.lt_irrefl _ (List.lt_trans h h')
  · rename_i h
    refine ⟨sle_refl _, (sle_iff _ _).2 ?_⟩
    rw [Lib.toList_data, Lib.toList_data]
    exact List.not_lt.1 h
theorem minF_le : ∀ (l : List MetaD) (a : ByteArray), sle (minF a l) a = true ∧ ∀ m ∈ l, sle (minF a l) m.first = true := by
  intro l
  induction l with
  | nil => intro a; exact ⟨sle_refl _, fun m h => by simp at h⟩
  | cons x l ih =>
    intro a
    have h := ih (Lib.minS a x.first)
    have e : minF a (x :: l) = minF (Lib.minS a x.first) l := rfl
    rw [e]
    refine ⟨sle_trans h.1 (minS_le _ _).1, fun m hm => ?_⟩
    rcases List.mem_cons.1 hm with rfl | hm
    · exact sle_trans h.1 (minS_le _ _).2
    · exact h.2 m hm
theorem maxF_ge : ∀ (l : List MetaD) (a : ByteArray), sle a (maxF a l) = true ∧ ∀ m ∈ l, sle m.last (maxF a l) = true := by
  intro l
  induction l with
  | nil => intro a; exact ⟨sle_refl _, fun m h => by simp at h⟩
  | cons x l ih =>
    intro a
    have h := ih (Lib.maxS a x.last)
    have e : maxF a (x :: l) = maxF (Lib.maxS a x.last) l := rfl
    rw [e]
    refine ⟨sle_trans (maxS_ge _ _).1 h.1, fun m hm => ?_⟩
    rcases List.mem_cons.1 hm with rfl | hm
    · exact sle_trans (maxS_ge _ _).2 h.1
    · exact h.2 m hm
theorem spanA_le {l : List MetaD} {m : MetaD} (h : m ∈ l) : sle (spanA l) m.first = true := (minF_le l _).2 m h
theorem spanZ_ge {l : List MetaD} {m : MetaD} (h : m ∈ l) : sle m.last (spanZ l) = true := (maxF_ge l _).2 m h

/-! ### states -/
def allS (s : StD) : List MetaD := s.lv 0 ++ (s.lv 1 ++ (s.lv 2 ++ s.lv 3))
theorem mem_allS {s : StD} {m : MetaD} : m ∈ allS s ↔ ∃ n, n < 4 ∧ m ∈ s.lv n := by
  unfold allS
  simp only [List.mem_append]
  constructor
  · rintro (h | h | h | h)
    · exact ⟨0, by omega, h⟩
    · exact ⟨1, by omega, h⟩
    · exact ⟨2, by omega, h⟩
    · exact ⟨3, by omega, h⟩
  · rintro ⟨n, hn, h⟩
    obtain rfl | rfl | rfl | rfl : n = 0 ∨ n = 1 ∨ n = 2 ∨ n = 3 := by omega
    · exact .inl h
    · exact .inr (.inl h)
    · exact .inr (.inr (.inl h))
    · exact .inr (.inr (.inr h))
theorem hasB_iff {s : StD} {f : Int} : hasB s f = true ↔ ∃ m ∈ allS s, m.file = f := by
  unfold hasB allS
  simp only [Bool.or_eq_true, List.any_eq_true, List.mem_append, beq_iff_eq]
  constructor
  · rintro (((⟨m, h, e⟩ | ⟨m, h, e⟩) | ⟨m, h, e⟩) | ⟨m, h, e⟩)
    · exact ⟨m, .inl h, e⟩
    · exact ⟨m, .inr (.inl h), e⟩
    · exact ⟨m, .inr (.inr (.inl h)), e⟩
    · exact ⟨m, .inr (.inr (.inr h)), e⟩
  · rintro ⟨m, h | h | h | h, e⟩
    · exact .inl (.inl (.inl ⟨m, h, e⟩))
    · exact .inl (.inl (.inr ⟨m, h, e⟩))
    · exact .inl (.inr ⟨m, h, e⟩)
    · exact .inr ⟨m, h, e⟩
/-- A state's tables are right, lie apart, and no file is twice. -/
structure Wf (s : StD) : Prop where
  good : ∀ n m, m ∈ s.lv n → tableB m = true
  uq : ((allS s).map (·.file)).Nodup
  ap : apartS s = true
theorem empty_wf : Wf emptyS := ⟨fun n m h => by simp [emptyS] at h, by simp [allS, emptyS], by simp [apartS, emptyS, apartL]⟩
theorem with_perm (s : StD) (n : Nat) (hn : n < 4) (t : MetaD) (k : Nat) : (allS (s.with n (putL (s.lv n) t k))).Perm (t :: allS s) := by
  have h := putL_perm (s.lv n) t k
  unfold allS
  obtain rfl | rfl | rfl | rfl : n = 0 ∨ n = 1 ∨ n = 2 ∨ n = 3 := by omega
  · simp only [with_lv, if_true, Nat.one_ne_zero, if_false, show ¬ (2 : Nat) = 0 by omega, show ¬ (3 : Nat) = 0 by omega]
    exact h.append_right _
  · simp only [with_lv, if_true, show ¬ (0 : Nat) = 1 by omega, if_false, show ¬ (2 : Nat) = 1 by omega, show ¬ (3 : Nat) = 1 by omega]
    exact ((h.append_right _).append_left _).trans List.perm_middle
  · simp only [with_lv, if_true, show ¬ (0 : Nat) = 2 by omega, if_false, show ¬ (1 : Nat) = 2 by omega, show ¬ (3 : Nat) = 2 by omega]
    refine (((h.append_right _).append_left _).append_left _).trans ?_
    exact (List.perm_middle.append_left (s.lv 0)).trans List.perm_middle
  · simp only [with_lv, if_true, show ¬ (0 : Nat) = 3 by omega, if_false, show ¬ (1 : Nat) = 3 by omega, show ¬ (2 : Nat) = 3 by omega]
    refine (((h.append_left _).append_left _).append_left _).trans ?_
    refine ((List.perm_middle.append_left (s.lv 1)).append_left (s.lv 0)).trans ?_
    exact (List.perm_middle.append_left (s.lv 0)).trans List.perm_middle
theorem docApply_wf {s : StD} {a : AddD} (g : Wf s) (h : (docApply s (oneE a)).2 = 0) : Wf (docApply s (oneE a)).1 := by
  obtain ⟨ha, he⟩ := docApply_one h
  have hh : hasB s a.t.file = false ∧ apartS (s.with a.level.toNat (putL (s.lv a.level.toNat) a.t a.level.toNat)) = true := by
    have hr : rightB (oneE a) = addB a := by simp [rightB, headB, numsB, oneE]
    have hb : badB s (oneE a) = false := by simp [badB, oneE]
    unfold docApply at h
    rw [hr, ha, if_neg (by simp), if_neg (by rw [hb]; simp)] at h
    simp only [applyGo, oneE, goneS, applyNew, newS] at h
    rcases hh : hasB s a.t.file with _ | _
    · rw [hh] at h
      rw [if_neg (by simp)] at h
      simp only [applyEnd] at h
      split at h
      · simp at h
      · split at h
        · simp at h
        · rename_i h1 h2
          exact ⟨rfl, by simpa using h2⟩
    · rw [hh] at h
      simp at h
  have ha' := ha
  simp only [addB, Bool.and_eq_true, decide_eq_true_eq] at ha
  obtain ⟨⟨hl0, hl4⟩, ht⟩ := ha
  have hn : a.level.toNat < 4 := by omega
  rw [he]
  refine ⟨fun n m hm => ?_, ?_, hh.2⟩
  · rw [with_lv] at hm
    split at hm
    · rcases List.mem_cons.1 ((putL_perm _ _ _).mem_iff.1 hm) with rfl | h'
      · exact ht
      · exact g.good _ _ h'
    · exact g.good _ _ hm
  · refine (((with_perm s _ hn a.t _).map (·.file)).nodup_iff).2 ?_
    rw [List.map_cons, List.nodup_cons]
    refine ⟨fun hm => ?_, g.uq⟩
    obtain ⟨m, hm, e⟩ := List.mem_map.1 hm
    have := hasB_iff.2 ⟨m, hm, e⟩
    rw [hh.1] at this
    cases this
theorem grow_wf (l : List AddD) : Wf (growS l) := by
  have key : ∀ (l : List AddD) (s : StD), Wf s → Wf (l.foldl (fun s a => if (docApply s (oneE a)).2 = 0 then (docApply s (oneE a)).1 else s) s) := by
    intro l
    induction l with
    | nil => intro s g; exact g
    | cons a l ih =>
      intro s g
      simp only [List.foldl_cons]
      apply ih
      split
      · exact docApply_wf g (by assumption)
      · exact g
  exact key _ _ empty_wf
/-- Tables that lie apart: only one has a key. -/
theorem apart_far {l : List MetaD} (ha : apartL l = true) (hg : ∀ m ∈ l, tableB m = true) : ∀ (j i : Nat) (hj : j < l.length) (hi : i < j), slt (l[i]'(by omega)).last (l[j]).first = true := by
  have h1 := (apart_iff l).1 ha
  intro j
  induction j with
  | zero => intro i hj hi; omega
  | succ j ih =>
    intro i hj hi
    have hs := h1 j hj
    have hs' : slt (l[j]'(by omega)).last (l[j + 1]).first = true := by rw [sle_not] at hs; simpa using hs
    by_cases e : i = j
    · subst e; exact hs'
    · have h2 := ih i (by omega) (by omega)
      have ht := hg _ (List.getElem_mem (l := l) (n := j) (by omega))
      simp only [tableB, Bool.and_eq_true] at ht
      have ht := ht.2
      rw [slt_iff] at h2 hs' ⊢
      rw [sle_iff] at ht
      have h3 : (l[i]'(by omega)).last.toList ≤ (l[j]'(by omega)).last.toList := List.le_trans (List.not_lt.1 fun h' => List.lt_irrefl _ (List.lt_trans h2 h')) ht
      by_cases h4 : (l[i]'(by omega)).last.toList < (l[j + 1]).first.toList
      · exact h4
      · exact absurd (List.le_trans (List.not_lt.1 h4) h3) (fun h' => List.not_lt.2 h' hs')
def holdsB (key : ByteArray) (m : MetaD) : Bool := sle m.first key && sle key m.last
theorem apart_one {l : List MetaD} (ha : apartL l = true) (hg : ∀ m ∈ l, tableB m = true) {key : ByteArray} {a b : MetaD} (h1 : a ∈ l) (h2 : b ∈ l) (k1 : holdsB key a = true) (k2 : holdsB key b = true) : a = b := by
  obtain ⟨i, hi, rfl⟩ := List.mem_iff_getElem.1 h1
  obtain ⟨j, hj, rfl⟩ := List.mem_iff_getElem.1 h2
  simp only [holdsB, Bool.and_eq_true] at k1 k2
  have no : ∀ (i j : Nat) (hi : i < l.length) (hj : j < l.length), i < j → sle key l[i].last = true → sle l[j].first key = true → False := by
    intro i j hi hj h k1 k2
    have := apart_far ha hg j i hj h
    have h3 := sle_trans k2 k1
    rw [sle_not, this] at h3
    cases h3
  rcases Nat.lt_trichotomy i j with h | h | h
  · exact (no i j hi hj h k1.2 k2.1).elim
  · subst h; rfl
  · exact (no j i hj hi h k2.2 k1.1).elim
theorem apartS_lv {s : StD} (h : apartS s = true) {n : Nat} (h0 : 0 < n) (hn : n < 4) : apartL (s.lv n) = true := by
  simp only [apartS, Bool.and_eq_true] at h
  obtain rfl | rfl | rfl : n = 1 ∨ n = 2 ∨ n = 3 := by omega
  · exact h.1.1
  · exact h.1.2
  · exact h.2
theorem uq_eq {s : StD} (h : ((allS s).map (·.file)).Nodup) {a b : MetaD} (ha : a ∈ allS s) (hb : b ∈ allS s) (e : a.file = b.file) : a = b := by
  obtain ⟨i, hi, rfl⟩ := List.mem_iff_getElem.1 ha
  obtain ⟨j, hj, rfl⟩ := List.mem_iff_getElem.1 hb
  have := (List.getElem_inj (xs := (allS s).map (·.file)) (i := i) (j := j) (h₀ := by simpa using hi) (h₁ := by simpa using hj) h).1 (by simpa using e)
  subst this
  rfl
end Go.Proofs.Ytheanmfdfoefoaa
