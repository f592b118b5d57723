/- Chapter 19: what a job's edit makes of a state; in plain Lean, no program in sight. -/
import Derived.Test.YtheanmfdfoefoaaEdRunP
import Derived.Test.YtheanmfdfoefoaaCovDoc
set_option linter.unusedVariables false
set_option linter.unusedSimpArgs false
namespace Go.Proofs.Ytheanmfdfoefoaa
open Go Go.RowKit
/-- The edit of a job. -/
def doneE (j : JobD) (made : List MetaD) : EdD := ⟨-1, -1, -1, j.frm.map (fun m => ⟨j.level, m.file⟩) ++ j.too.map (fun m => ⟨j.level + 1, m.file⟩), made.map fun m => ⟨j.level + 1, m⟩⟩
/-- Tables but for some. -/
def outL (l xs : List MetaD) : List MetaD := l.filter fun m => xs.all fun x => m.file != x.file
theorem outL_nil (l : List MetaD) : outL l [] = l := by unfold outL; exact List.filter_eq_self.2 fun _ _ => rfl
theorem outL_cons (l : List MetaD) (x : MetaD) (xs : List MetaD) : outL l (x :: xs) = outL (withoutL l x.file) xs := by
  unfold outL withoutL
  rw [List.filter_filter]
  congr 1
  funext m
  rw [List.all_cons, Bool.and_comm]
theorem outL_sub (l xs : List MetaD) : (outL l xs).Sublist l := List.filter_sublist
theorem with_with (s : StD) (n : Nat) (a b : List MetaD) : (s.with n a).with n b = s.with n b := by
  unfold StD.with
  congr 1
  funext k
  by_cases h : k = n
  · simp [h]
  · simp [h]
theorem with_same (s : StD) (n : Nat) : s.with n (s.lv n) = s := by
  obtain ⟨a, b, c, f⟩ := s
  unfold StD.with
  congr 1
  funext k
  by_cases h : k = n
  · simp [h]
  · simp [h]
/-- Tables of one level go. -/
theorem goneS_level (n : Nat) : ∀ (xs : List MetaD) (s : StD) (rest : List PlD), (xs.map (·.file)).Nodup → (∀ x ∈ xs, x ∈ s.lv n) → goneS s (xs.map (fun m => (⟨(n : Int), m.file⟩ : PlD)) ++ rest) = goneS (s.with n (outL (s.lv n) xs)) rest
  | [], s, rest, _, _ => by rw [outL_nil, with_same]; rfl
  | x :: xs, s, rest, hn, hm => by
    rw [List.map_cons, List.nodup_cons] at hn
    have hx := hm x List.mem_cons_self
    have hlt : (withoutL (s.lv n) x.file).length < (s.lv n).length := by
      unfold withoutL
      rw [List.length_filter_lt_length_iff_exists]
      exact ⟨x, hx, by simp⟩
    have ih := goneS_level n xs (s.with n (withoutL (s.lv n) x.file)) rest hn.2 fun y hy => by
      rw [with_lv, if_pos rfl]
      unfold withoutL
      refine List.mem_filter.2 ⟨hm y (List.mem_cons_of_mem _ hy), ?_⟩
      have : y.file ≠ x.file := fun e => hn.1 (List.mem_map.2 ⟨y, hy, e⟩)
      simpa using this
    rw [List.map_cons, List.cons_append]
    have hg := goneS_yes (s := s) (p := ⟨(n : Int), x.file⟩) (l := xs.map (fun m => (⟨(n : Int), m.file⟩ : PlD)) ++ rest) hlt
    rw [hg]
    show goneS (s.with n (withoutL (s.lv n) x.file)) _ = _
    rw [ih, with_with, with_lv, if_pos rfl, outL_cons]
/-- How many are left. -/
theorem outL_len {l xs : List MetaD} (hl : (l.map (·.file)).Nodup) (hx : (xs.map (·.file)).Nodup) (hm : ∀ x ∈ xs, x ∈ l) : (outL l xs).length + xs.length = l.length := by
  induction xs generalizing l with
  | nil => rw [outL_nil]; rfl
  | cons x xs ih =>
    rw [List.map_cons, List.nodup_cons] at hx
    rw [outL_cons]
    have hsub : (withoutL l x.file).Sublist l := List.filter_sublist
    have h1 := ih (l := withoutL l x.file) (hl.sublist (hsub.map _)) hx.2 fun y hy => by
      unfold withoutL
      refine List.mem_filter.2 ⟨hm y (List.mem_cons_of_mem _ hy), ?_⟩
      have : y.file ≠ x.file := fun e => hx.1 (List.mem_map.2 ⟨y, hy, e⟩)
      simpa using this
    have h2 : (withoutL l x.file).length + 1 = l.length := by
      have hxl := hm x List.mem_cons_self
      clear ih h1 hsub hm hx
      induction l with
      | nil => cases hxl
      | cons a l ih2 =>
        rw [List.map_cons, List.nodup_cons] at hl
        unfold withoutL
        rw [List.filter_cons]
        rcases List.mem_cons.1 hxl with rfl | hxl
        · rw [if_neg (by simp)]
          have : l.filter (fun m => m.file != x.file) = l := List.filter_eq_self.2 fun m hm => by
            have : m.file ≠ x.file := fun e => hl.1 (List.mem_map.2 ⟨m, hm, e⟩)
            simpa using this
          rw [this, List.length_cons]
        · have hne : a.file ≠ x.file := fun e => hl.1 (List.mem_map.2 ⟨x, hxl, e.symm⟩)
          rw [if_pos (by simpa using hne), List.length_cons, List.length_cons]
          have := ih2 hl.2 hxl
          unfold withoutL at this
          omega
    rw [List.length_cons]; omega
theorem lv_nodup {s : StD} (h : Wf0 s) {n : Nat} (hn : n < 4) : ((s.lv n).map (·.file)).Nodup := by
  have hu := h.uq
  unfold allS at hu
  simp only [List.map_append] at hu
  rw [List.nodup_append, List.nodup_append, List.nodup_append] at hu
  obtain rfl | rfl | rfl | rfl : n = 0 ∨ n = 1 ∨ n = 2 ∨ n = 3 := by omega
  · exact hu.1
  · exact hu.2.1.1
  · exact hu.2.1.2.1.1
  · exact hu.2.1.2.1.2.1
theorem frm_mem {s : StD} {n : Nat} (hne : s.lv n ≠ []) {m : MetaD} (h : m ∈ frmS s n) : m ∈ s.lv n := by
  unfold frmS at h
  split at h
  · rename_i e; subst e; exact h
  · rw [List.mem_singleton] at h; subst h; exact leastM_mem _ hne
theorem frm_nodup {s : StD} (hw : Wf0 s) (n : Nat) : ((frmS s n).map (·.file)).Nodup := by
  unfold frmS
  split
  · exact lv_nodup hw (by omega)
  · simp
theorem frm_ne {s : StD} {n : Nat} (hne : s.lv n ≠ []) : frmS s n ≠ [] := by
  unfold frmS
  split
  · rename_i e; subst e; exact hne
  · simp
theorem too_mem {s : StD} {n : Nat} {m : MetaD} (h : m ∈ tooS s n) : m ∈ s.lv (n + 1) := by
  unfold tooS touchL at h
  exact (List.mem_filter.1 h).1
theorem too_nodup {s : StD} (hw : Wf0 s) {n : Nat} (hn : n < 3) : ((tooS s n).map (·.file)).Nodup :=
  (lv_nodup hw (by omega)).sublist ((List.filter_sublist (l := s.lv (n + 1))).map _)
/-- The state without a job's tables. -/
def jobOut (s : StD) (n : Nat) : StD := (s.with n (outL (s.lv n) (frmS s n))).with (n + 1) (outL (s.lv (n + 1)) (tooS s n))
theorem jobOut_lv (s : StD) (n k : Nat) : (jobOut s n).lv k = if k = n + 1 then outL (s.lv (n + 1)) (tooS s n) else if k = n then outL (s.lv n) (frmS s n) else s.lv k := by
  unfold jobOut
  rw [with_lv, with_lv]
theorem job_gone {s : StD} (hw : Wf0 s) {n : Nat} (hn : n < 3) (hne : s.lv n ≠ []) (made : List MetaD) : goneS s (doneE (jobS s n) made).gone = some (jobOut s n) := by
  show goneS s ((frmS s n).map (fun m => (⟨(n : Int), m.file⟩ : PlD)) ++ (tooS s n).map (fun m => (⟨((n : Int) + 1), m.file⟩ : PlD))) = _
  rw [goneS_level n _ s _ (frm_nodup hw n) fun x hx => frm_mem hne hx]
  have e : (tooS s n).map (fun m => (⟨((n : Int) + 1), m.file⟩ : PlD)) = (tooS s n).map (fun m => (⟨((n + 1 : Nat) : Int), m.file⟩ : PlD)) ++ [] := by rw [List.append_nil]; rfl
  rw [e]
  have hlv : (s.with n (outL (s.lv n) (frmS s n))).lv (n + 1) = s.lv (n + 1) := by rw [with_lv, if_neg (by omega)]
  rw [goneS_level (n + 1) _ _ _ (too_nodup hw hn) fun x hx => by rw [hlv]; exact too_mem hx, hlv]
  rfl
theorem job_count {s : StD} (hw : Wf0 s) {n : Nat} (hn : n < 3) (hne : s.lv n ≠ []) : ((jobOut s n).lv n).length + (frmS s n).length = (s.lv n).length ∧ ((jobOut s n).lv (n + 1)).length + (tooS s n).length = (s.lv (n + 1)).length ∧ ∀ k, k ≠ n → k ≠ n + 1 → (jobOut s n).lv k = s.lv k := by
  refine ⟨?_, ?_, fun k h1 h2 => ?_⟩
  · rw [jobOut_lv, if_neg (by omega), if_pos rfl]
    exact outL_len (lv_nodup hw (by omega)) (frm_nodup hw n) fun x hx => frm_mem hne hx
  · rw [jobOut_lv, if_pos rfl]
    exact outL_len (lv_nodup hw (by omega)) (too_nodup hw hn) fun x hx => too_mem hx
  · rw [jobOut_lv, if_neg h2, if_neg h1]
theorem done_right {s : StD} (hw : Wf0 s) {n : Nat} (hn : n < 3) (hne : s.lv n ≠ []) (hc : countS s ≤ 500) {made : List MetaD} (hm : ∀ m ∈ made, tableB m = true) (hml : made.length ≤ 1000) : rightB (doneE (jobS s n) made) = true := by
  have hcount := job_count hw hn hne
  have hle : (s.lv n).length ≤ 500 ∧ (s.lv (n + 1)).length ≤ 500 := by
    unfold countS at hc
    obtain rfl | rfl | rfl : n = 0 ∨ n = 1 ∨ n = 2 := by omega
    · show (s.lv 0).length ≤ 500 ∧ (s.lv 1).length ≤ 500; omega
    · show (s.lv 1).length ≤ 500 ∧ (s.lv 2).length ≤ 500; omega
    · show (s.lv 2).length ≤ 500 ∧ (s.lv 3).length ≤ 500; omega
  have hfile : ∀ k, k < 4 → ∀ m ∈ s.lv k, 1 ≤ m.file ∧ m.file ≤ 999999 := fun k _ m hm => by
    have := tableB_bd (hw.good k m hm)
    omega
  have h1 : headB (doneE (jobS s n) made) = true := by
    rw [headB_iff]
    refine ⟨(by decide : (-1 : Int) ≤ -1 ∧ (-1 : Int) ≠ 0 ∧ (-1 : Int) ≤ 1000000), (by decide : (-1 : Int) ≤ -1 ∧ (-1 : Int) ≠ 0 ∧ (-1 : Int) ≤ 1000000), (by decide : (-1 : Int) ≤ -1 ∧ (-1 : Int) ≤ 72057594037927935), ?_, ?_⟩
    · show ((frmS s n).map (fun m => (⟨(n : Int), m.file⟩ : PlD)) ++ (tooS s n).map (fun m => (⟨((n : Int) + 1), m.file⟩ : PlD))).length ≤ 1000
      rw [List.length_append, List.length_map, List.length_map]; omega
    · show (made.map fun m => (⟨(n : Int) + 1, m⟩ : AddD)).length ≤ 1000
      rw [List.length_map]; exact hml
  unfold rightB
  rw [h1]
  have h2 : (doneE (jobS s n) made).gone.all plB = true := by
    rw [List.all_eq_true]
    intro p hp
    rcases List.mem_append.1 (show p ∈ (frmS s n).map (fun m => (⟨(n : Int), m.file⟩ : PlD)) ++ (tooS s n).map (fun m => (⟨((n : Int) + 1), m.file⟩ : PlD)) from hp) with hp | hp
    · obtain ⟨m, hm, rfl⟩ := List.mem_map.1 hp
      have := hfile n (by omega) m (frm_mem hne hm)
      simp only [plB, Bool.and_eq_true, decide_eq_true_eq]; omega
    · obtain ⟨m, hm, rfl⟩ := List.mem_map.1 hp
      have := hfile (n + 1) (by omega) m (too_mem hm)
      simp only [plB, Bool.and_eq_true, decide_eq_true_eq]; omega
  have h3 : (doneE (jobS s n) made).new.all addB = true := by
    rw [List.all_eq_true]
    intro a ha
    obtain ⟨m, hm', rfl⟩ := List.mem_map.1 (show a ∈ made.map fun m => (⟨(n : Int) + 1, m⟩ : AddD) from ha)
    simp only [addB, Bool.and_eq_true, decide_eq_true_eq]
    exact ⟨⟨by omega, by omega⟩, hm m hm'⟩
  rw [h2, h3]; rfl
theorem done_apply {s : StD} (hw : Wf0 s) {n : Nat} (hn : n < 3) (hne : s.lv n ≠ []) (hc : countS s ≤ 500) {made : List MetaD} (hm : ∀ m ∈ made, tableB m = true) (hml : made.length ≤ 1000) : docApply s (doneE (jobS s n) made) = applyNew (jobOut s n) (doneE (jobS s n) made) := by
  unfold docApply
  rw [if_neg (by rw [done_right hw hn hne hc hm hml]; decide), if_neg (by show ¬ (badB s (doneE (jobS s n) made) = true); have : badB s (doneE (jobS s n) made) = false := rfl; rw [this]; decide)]
  unfold applyGo
  rw [job_gone hw hn hne]
theorem job_mid {s : StD} (hw : Wf0 s) {n : Nat} (hn : n < 3) (hne : s.lv n ≠ []) : Mid (jobOut s n) := goneS_mid _ _ _ hw.mid (job_gone hw hn hne [])
theorem slt_of_sle {a b c : ByteArray} (h : slt a b = true) (h' : sle b c = true) : slt a c = true := by
  cases hc : slt a c with
  | true => rfl
  | false =>
    have h1 : sle c a = true := by rw [sle_not, hc]; rfl
    have h2 := sle_trans h' h1
    rw [sle_not, h] at h2; cases h2
/-- Whoever is left of the next level lies apart from all that goes. -/
theorem far_of {s : StD} (hw : Wf0 s) {n : Nat} (hn : n < 3) {R : MetaD} (hR : R ∈ outL (s.lv (n + 1)) (tooS s n)) (hgood : tableB R = true) {F Z : ByteArray} (hF : ∃ m ∈ frmS s n ++ tooS s n, F = m.first) (hZ : ∃ m ∈ frmS s n ++ tooS s n, Z = m.last) (hne : s.lv n ≠ []) : slt R.last F = true ∨ slt Z R.first = true := by
  unfold outL at hR
  obtain ⟨hR1, hR2⟩ := List.mem_filter.1 hR
  have hR0 : R ∉ tooS s n := fun h => by
    have := List.all_eq_true.1 hR2 R h
    simp at this
  have hle : sle R.first R.last = true := by
    simp only [tableB, Bool.and_eq_true] at hgood; exact hgood.2
  have hnt : touchB (spanA (frmS s n)) (spanZ (frmS s n)) R = false := by
    cases ht : touchB (spanA (frmS s n)) (spanZ (frmS s n)) R with
    | false => rfl
    | true => exact absurd (List.mem_filter.2 ⟨hR1, ht⟩) hR0
  have hapart := apartS_lv hw.ap (n := n + 1) (by omega) (by omega)
  have hdis : ∀ m ∈ tooS s n, Disj m R := fun m hm => by
    have hm1 := too_mem hm
    have hp := (apart_disj (hw.mid.srt (n + 1) (by omega) (by omega)) fun m hm => hw.good _ m hm).1 hapart
    have hmR : m ≠ R := fun e => hR0 (e ▸ hm)
    obtain ⟨i, hi, rfl⟩ := List.mem_iff_getElem.1 hm1
    obtain ⟨j, hj, rfl⟩ := List.mem_iff_getElem.1 hR1
    have hp' := List.pairwise_iff_getElem.1 hp
    rcases Nat.lt_trichotomy i j with h | h | h
    · exact hp' i j hi hj h
    · subst h; exact absurd rfl hmR
    · exact (hp' j i hj hi h).symm
  have htouch : ∀ m ∈ tooS s n, sle m.first (spanZ (frmS s n)) = true ∧ slt m.last (spanA (frmS s n)) = false := fun m hm => by
    have := (List.mem_filter.1 hm).2
    unfold touchB at this
    simpa using this
  unfold touchB at hnt
  rw [Bool.and_eq_false_iff] at hnt
  rcases hnt with hnt | hnt
  · -- R begins behind the span
    have h1 : slt (spanZ (frmS s n)) R.first = true := by
      rw [sle_not] at hnt; simpa using hnt
    right
    obtain ⟨m, hm, rfl⟩ := hZ
    rcases List.mem_append.1 hm with hm | hm
    · exact lt_le_trans (spanZ_ge hm) h1
    · rcases hdis m hm with h2 | h2
      · exact h2
      · exfalso
        have a1 : slt R.last (spanZ (frmS s n)) = true := slt_of_sle h2 (htouch m hm).1
        have a2 := slt_trans' a1 h1
        have a3 := lt_le_trans hle a2
        rw [slt_irr] at a3; cases a3
  · -- R ends ahead of the span
    have h1 : slt R.last (spanA (frmS s n)) = true := by simpa using hnt
    left
    obtain ⟨m, hm, rfl⟩ := hF
    rcases List.mem_append.1 hm with hm | hm
    · exact slt_of_sle h1 (spanA_le hm)
    · rcases hdis m hm with h2 | h2
      · exfalso
        have a1 : slt m.last (spanA (frmS s n)) = true := slt_trans' (slt_of_sle h2 hle) h1
        rw [(htouch m hm).2] at a1; cases a1
      · exact h2
theorem minF_mem : ∀ (l : List MetaD) (a : ByteArray), minF a l = a ∨ ∃ m ∈ l, minF a l = m.first
  | [], a => .inl rfl
  | x :: l, a => by
    show minF (Lib.minS a x.first) l = a ∨ _
    rcases minF_mem l (Lib.minS a x.first) with h | ⟨m, hm, h⟩
    · have hc : Lib.minS a x.first = a ∨ Lib.minS a x.first = x.first := by unfold Lib.minS; split; exact .inl rfl; exact .inr rfl
      rcases hc with e | e
      · left; rw [e] at h; rw [e]; exact h
      · right; exact ⟨x, List.mem_cons_self, by show minF (Lib.minS a x.first) l = _; rw [h, e]⟩
    · right; exact ⟨m, List.mem_cons_of_mem _ hm, h⟩
theorem maxF_mem : ∀ (l : List MetaD) (a : ByteArray), maxF a l = a ∨ ∃ m ∈ l, maxF a l = m.last
  | [], a => .inl rfl
  | x :: l, a => by
    show maxF (Lib.maxS a x.last) l = a ∨ _
    rcases maxF_mem l (Lib.maxS a x.last) with h | ⟨m, hm, h⟩
    · have hc : Lib.maxS a x.last = a ∨ Lib.maxS a x.last = x.last := by unfold Lib.maxS; split <;> first | exact .inl rfl | exact .inr rfl
      rcases hc with e | e
      · left; rw [e] at h; rw [e]; exact h
      · right; exact ⟨x, List.mem_cons_self, by show maxF (Lib.maxS a x.last) l = _; rw [h, e]⟩
    · right; exact ⟨m, List.mem_cons_of_mem _ hm, h⟩
theorem spanA_mem {l : List MetaD} (h : l ≠ []) : ∃ m ∈ l, spanA l = m.first := by
  cases l with
  | nil => exact absurd rfl h
  | cons x l =>
    rcases minF_mem (x :: l) x.first with e | ⟨m, hm, e⟩
    · exact ⟨x, List.mem_cons_self, e⟩
    · exact ⟨m, hm, e⟩
theorem spanZ_mem {l : List MetaD} (h : l ≠ []) : ∃ m ∈ l, spanZ l = m.last := by
  cases l with
  | nil => exact absurd rfl h
  | cons x l =>
    rcases maxF_mem (x :: l) x.last with e | ⟨m, hm, e⟩
    · exact ⟨x, List.mem_cons_self, e⟩
    · exact ⟨m, hm, e⟩
/-- All tables of a job. -/
def allJ (s : StD) (n : Nat) : List MetaD := frmS s n ++ tooS s n
theorem allJ_good {s : StD} (hw : Wf0 s) {n : Nat} (hne : s.lv n ≠ []) : ∀ m ∈ allJ s n, tableB m = true := fun m hm => by
  rcases List.mem_append.1 hm with h | h
  · exact hw.good n m (frm_mem hne h)
  · exact hw.good (n + 1) m (too_mem h)
theorem allJ_ne {s : StD} {n : Nat} (hne : s.lv n ≠ []) : allJ s n ≠ [] := by
  unfold allJ
  have := frm_ne hne
  simp [this]
/-- The one table that has all the job's keys. -/
def oneM (s : StD) (n : Nat) (f z : Int) : MetaD := ⟨f, z, spanA (allJ s n), spanZ (allJ s n)⟩
theorem oneM_good {s : StD} (hw : Wf0 s) {n : Nat} (hne : s.lv n ≠ []) {f z : Int} (hf : 1 ≤ f ∧ f ≤ 999999) (hz : 1 ≤ z ∧ z ≤ 1048576) : tableB (oneM s n f z) = true := by
  obtain ⟨a, ha, ea⟩ := spanA_mem (allJ_ne hne)
  obtain ⟨b, hb, eb⟩ := spanZ_mem (allJ_ne hne)
  have ga := allJ_good hw hne a ha
  have gb := allJ_good hw hne b hb
  have h1 := spanA_le ha
  have h2 := spanZ_ge ha
  simp only [tableB, Bool.and_eq_true, decide_eq_true_eq] at ga gb
  unfold tableB oneM
  simp only [Bool.and_eq_true, decide_eq_true_eq]
  refine ⟨⟨⟨⟨⟨⟨hf.1, hf.2⟩, hz.1⟩, hz.2⟩, by rw [ea]; exact ga.1.1.2⟩, by rw [eb]; exact gb.1.2⟩, ?_⟩
  exact sle_trans h1 (sle_trans ga.2 h2)
theorem out_good {s : StD} (hw : Wf0 s) {n : Nat} {m : MetaD} (h : m ∈ outL (s.lv n) (tooS s (n - 1))) : tableB m = true := hw.good n m ((outL_sub _ _).subset h)
theorem srt_sub {l l' : List MetaD} (h : l'.Sublist l) (hs : Srt l) : Srt l' := List.Pairwise.sublist h hs
/-- A job without a new table. -/
theorem done_none {s : StD} (hw : Wf0 s) {n : Nat} (hn : n < 3) (hne : s.lv n ≠ []) (hc : countS s ≤ 500) : (docApply s (doneE (jobS s n) [])).2 = 0 ∧ (docApply s (doneE (jobS s n) [])).1.lv = (jobOut s n).lv := by
  rw [done_apply hw hn hne hc (fun m h => by cases h) (by simp)]
  have e : applyNew (jobOut s n) (doneE (jobS s n) []) = applyEnd (jobOut s n) (doneE (jobS s n) []) := rfl
  rw [e]
  have hcount := job_count hw hn hne
  have hc2 : ¬ 1000 < countS (jobOut s n) := by
    have h3 : ∀ k, k < 4 → ((jobOut s n).lv k).length ≤ (s.lv k).length := fun k _ => by
      by_cases h1 : k = n
      · subst h1; omega
      · by_cases h2 : k = n + 1
        · subst h2; omega
        · rw [hcount.2.2 k h1 h2]; exact Nat.le_refl _
    have := h3 0 (by omega)
    have := h3 1 (by omega)
    have := h3 2 (by omega)
    have := h3 3 (by omega)
    unfold countS at hc ⊢
    omega
  have hsub : ∀ k, ((jobOut s n).lv k).Sublist (s.lv k) := fun k => by
    rw [jobOut_lv]
    split
    · rename_i e; subst e; exact outL_sub _ _
    · split
      · rename_i e; subst e; exact outL_sub _ _
      · exact List.Sublist.refl _
  have hmid := job_mid hw hn hne
  have hap : apartS (jobOut s n) = true := by
    have key : ∀ k, 1 ≤ k → k < 4 → apartL ((jobOut s n).lv k) = true := fun k h1 h4 => by
      rw [apart_disj (hmid.srt k h1 h4) fun m hm => hmid.good k m hm]
      exact ((apart_disj (hw.mid.srt k h1 h4) fun m hm => hw.good k m hm).1 (apartS_lv hw.ap (by omega) h4)).sublist (hsub k)
    unfold apartS
    rw [key 1 (by omega) (by omega), key 2 (by omega) (by omega), key 3 (by omega) (by omega)]; rfl
  unfold applyEnd
  rw [if_neg hc2, if_neg (by rw [hap]; decide)]
  exact ⟨rfl, rfl⟩
/-- A job with one table of all its keys. -/
theorem done_one {s : StD} (hw : Wf0 s) {n : Nat} (hn : n < 3) (hne : s.lv n ≠ []) (hc : countS s ≤ 500) {f z : Int} (hf : 1 ≤ f ∧ f ≤ 999999) (hz : 1 ≤ z ∧ z ≤ 1048576) (hno : ∀ m ∈ allS s, m.file ≠ f) :
    (docApply s (doneE (jobS s n) [oneM s n f z])).2 = 0 ∧ (docApply s (doneE (jobS s n) [oneM s n f z])).1.lv = ((jobOut s n).with (n + 1) (putL ((jobOut s n).lv (n + 1)) (oneM s n f z) (n + 1))).lv := by
  have hg := oneM_good hw hne hf hz
  rw [done_apply hw hn hne hc (fun m h => by rw [List.mem_singleton] at h; subst h; exact hg) (by simp)]
  have hsub : ∀ k, ((jobOut s n).lv k).Sublist (s.lv k) := fun k => by
    rw [jobOut_lv]
    split
    · rename_i e; subst e; exact outL_sub _ _
    · split
      · rename_i e; subst e; exact outL_sub _ _
      · exact List.Sublist.refl _
  have hhas : hasB (jobOut s n) f = false := by
    cases hb : hasB (jobOut s n) f with
    | false => rfl
    | true =>
      obtain ⟨m, hm, e⟩ := hasB_iff.1 hb
      obtain ⟨k, hk, hm⟩ := mem_allS.1 hm
      exact absurd e (hno m (mem_allS.2 ⟨k, hk, (hsub k).subset hm⟩))
  have hnew : newS (jobOut s n) (doneE (jobS s n) [oneM s n f z]).new = some ((jobOut s n).with (n + 1) (putL ((jobOut s n).lv (n + 1)) (oneM s n f z) (n + 1))) := by
    show newS (jobOut s n) [⟨(n : Int) + 1, oneM s n f z⟩] = _
    rw [newS_yes (by exact hhas)]
    rfl
  have hmid := job_mid hw hn hne
  have hmid2 := newS_mid _ _ _ hmid (fun a ha => by
    obtain ⟨m, hm, rfl⟩ := List.mem_map.1 (show a ∈ [oneM s n f z].map fun m => (⟨(n : Int) + 1, m⟩ : AddD) from ha)
    rw [List.mem_singleton] at hm
    subst hm
    simp only [addB, Bool.and_eq_true, decide_eq_true_eq]
    exact ⟨⟨by omega, by omega⟩, hg⟩) hnew
  unfold applyNew
  rw [hnew]
  simp only
  obtain ⟨S2, hS2⟩ : ∃ S2, (jobOut s n).with (n + 1) (putL ((jobOut s n).lv (n + 1)) (oneM s n f z) (n + 1)) = S2 := ⟨_, rfl⟩
  have hcount := job_count hw hn hne
  have hlen : ∀ k, k < 4 → (S2.lv k).length ≤ (s.lv k).length + 1 := fun k _ => by
    rw [← hS2, with_lv]
    split
    · rename_i e; subst e; rw [putL_len]; omega
    · rename_i e
      by_cases h1 : k = n
      · subst h1; omega
      · rw [hcount.2.2 k h1 e]; omega
  rw [hS2] at hmid2 ⊢
  have hc2 : ¬ 1000 < countS S2 := by
    have := hlen 0 (by omega)
    have := hlen 1 (by omega)
    have := hlen 2 (by omega)
    have := hlen 3 (by omega)
    unfold countS at hc ⊢
    omega
  have hap : apartS S2 = true := by
    have key : ∀ k, 1 ≤ k → k < 4 → apartL (S2.lv k) = true := fun k h1 h4 => by
      rw [apart_disj (hmid2.srt k h1 h4) fun m hm => hmid2.good k m hm]
      have hold : ∀ k, 1 ≤ k → k < 4 → ((jobOut s n).lv k).Pairwise Disj := fun k h1 h4 => ((apart_disj (hw.mid.srt k h1 h4) fun m hm => hw.good k m hm).1 (apartS_lv hw.ap (by omega) h4)).sublist (hsub k)
      rw [← hS2, with_lv]
      split
      · rename_i e
        subst e
        refine disj_perm (putL_perm _ _ _).symm (List.pairwise_cons.2 ⟨fun R hR => ?_, hold (n + 1) (by omega) (by omega)⟩)
        rw [jobOut_lv, if_pos rfl] at hR
        have hgR := hw.good (n + 1) R ((outL_sub _ _).subset hR)
        obtain ⟨a, ha, ea⟩ := spanA_mem (allJ_ne hne)
        obtain ⟨b, hb, eb⟩ := spanZ_mem (allJ_ne hne)
        rcases far_of hw hn hR hgR ⟨a, ha, ea⟩ ⟨b, hb, eb⟩ hne with h | h
        · exact .inr h
        · exact .inl h
      · exact hold k h1 h4
    unfold apartS
    rw [key 1 (by omega) (by omega), key 2 (by omega) (by omega), key 3 (by omega) (by omega)]; rfl
  unfold applyEnd
  rw [if_neg hc2, if_neg (by rw [hap]; decide)]
  exact ⟨rfl, rfl⟩
end Go.Proofs.Ytheanmfdfoefoaa
