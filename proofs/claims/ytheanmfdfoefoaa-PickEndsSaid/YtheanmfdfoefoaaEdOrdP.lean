/- The walk over an abstract heap, texts EdGoesP to EdOrdP in one. -/
import Derived.Test.YtheanmfdfoefoaaEdLaw
set_option linter.unusedVariables false
set_option linter.unusedSimpArgs false
set_option linter.unusedVariables false
set_option linter.unusedSimpArgs false
namespace Go.Proofs.Ytheanmfdfoefoaa
open Go Go.RowKit

/-- A state holds just these tables, each at its level. -/
def HasT (s : StD) (l : List AddD) : Prop := ∀ n, n < 4 → (s.lv n).Perm ((l.filter fun a => a.level.toNat == n).map (·.t))
def lvl4 (l : List AddD) : Prop := ∀ a ∈ l, 0 ≤ a.level ∧ a.level < 4
def filesA (l : List AddD) : List Int := l.map fun a => a.t.file
theorem hasT_all {s : StD} {l : List AddD} (h : HasT s l) {a : AddD} (ha : a ∈ l) (h4 : a.level.toNat < 4) : a.t ∈ s.lv a.level.toNat := by
  refine (h _ h4).mem_iff.2 (List.mem_map.2 ⟨a, List.mem_filter.2 ⟨ha, by simp⟩, rfl⟩)
theorem hasB_false {s : StD} {f : Int} (h : hasB s f = false) : ∀ n, n < 4 → ∀ m ∈ s.lv n, m.file ≠ f := by
  intro n hn m hm e
  have : hasB s f = true := by
    rw [hasB_iff]
    refine ⟨m, ?_, e⟩
    unfold allS
    simp only [List.mem_append]
    obtain rfl | rfl | rfl | rfl : n = 0 ∨ n = 1 ∨ n = 2 ∨ n = 3 := by omega
    · exact .inl hm
    · exact .inr (.inl hm)
    · exact .inr (.inr (.inl hm))
    · exact .inr (.inr (.inr hm))
  rw [h] at this; cases this
theorem newS_has : ∀ (l : List AddD) (s s' : StD) (l0 : List AddD), newS s l = some s' → lvl4 l → lvl4 l0 → HasT s l0 → (filesA l0).Nodup → HasT s' (l0 ++ l) ∧ (filesA (l0 ++ l)).Nodup := by
  intro l
  induction l with
  | nil => intro s s' l0 h _ _ hs hn; simp only [newS, Option.some.injEq] at h; subst h; rw [List.append_nil]; exact ⟨hs, hn⟩
  | cons a l ih =>
    intro s s' l0 h h4 h40 hs hn
    simp only [newS] at h
    cases hb : hasB s a.t.file with
    | true => rw [hb] at h; simp at h
    | false =>
      rw [hb] at h
      simp only [Bool.false_eq_true, if_false] at h
      have ha4 := h4 a List.mem_cons_self
      have := ih _ s' (l0 ++ [a]) h (fun b hb => h4 b (List.mem_cons_of_mem _ hb)) (fun b hb => by
        rcases List.mem_append.1 hb with hb | hb
        · exact h40 b hb
        · rw [List.mem_singleton] at hb; subst hb; exact ha4) (fun n hn4 => ?_) ?_
      · rw [List.append_assoc] at this; exact this
      · rw [with_lv, List.filter_append, List.map_append]
        by_cases e : n = a.level.toNat
        · subst e
          rw [if_pos rfl]
          have e1 : ([a].filter fun b => b.level.toNat == a.level.toNat) = [a] := by simp
          rw [e1]
          refine (putL_perm _ _ _).trans ?_
          refine ((hs _ hn4).cons a.t).trans ?_
          simpa using (List.perm_append_comm (l₁ := [a.t]) (l₂ := (l0.filter fun b => b.level.toNat == a.level.toNat).map (·.t)))
        · rw [if_neg e]
          have hne : ¬ a.level.toNat = n := fun h => e h.symm
          have e1 : ([a].filter fun b => b.level.toNat == n) = [] := by simp [hne]
          rw [e1]
          simpa using hs n hn4
      · unfold filesA
        rw [List.map_append, List.nodup_append]
        refine ⟨hn, by simp, fun x hx y hy => ?_⟩
        obtain ⟨b, hbm, rfl⟩ := List.mem_map.1 hx
        simp only [List.map_cons, List.map_nil, List.mem_singleton] at hy
        subst hy
        have hb4 := h40 b hbm
        have h44 : b.level.toNat < 4 := by omega
        exact hasB_false hb _ h44 _ (hasT_all hs hbm h44)
def placesA (l : List AddD) : List PlD := l.map fun a => ⟨a.level, a.t.file⟩
theorem goneS_has : ∀ (l : List AddD) (s : StD), lvl4 l → HasT s l → (filesA l).Nodup → ∃ s', goneS s (placesA l) = some s' ∧ ∀ n, n < 4 → s'.lv n = [] := by
  intro l
  induction l with
  | nil => intro s _ hs _; exact ⟨s, rfl, fun n hn => (hs n hn).eq_nil⟩
  | cons a l ih =>
    intro s h4 hs hn
    have ha4 := h4 a List.mem_cons_self
    have h44 : a.level.toNat < 4 := by omega
    have hmem := hasT_all hs (a := a) List.mem_cons_self h44
    have hlt : (withoutL (s.lv a.level.toNat) a.t.file).length < (s.lv a.level.toNat).length := by
      unfold withoutL
      refine Nat.lt_of_le_of_ne (List.length_filter_le _ _) fun e => ?_
      rw [List.length_filter_eq_length_iff] at e
      have := e _ hmem
      simp at this
    have hn' : a.t.file ∉ filesA l ∧ (filesA l).Nodup := by simpa [filesA] using hn
    show ∃ s', (if (withoutL (s.lv a.level.toNat) a.t.file).length < (s.lv a.level.toNat).length then goneS (s.with a.level.toNat (withoutL (s.lv a.level.toNat) a.t.file)) (placesA l) else none) = some s' ∧ _
    rw [if_pos hlt]
    refine ih _ (fun b hb => h4 b (List.mem_cons_of_mem _ hb)) (fun n hn4 => ?_) hn'.2
    rw [with_lv]
    have hold := hs n hn4
    by_cases e : n = a.level.toNat
    · subst e
      rw [if_pos rfl]
      have h1 := hold.filter (fun m => m.file != a.t.file)
      unfold withoutL
      refine h1.trans ?_
      have e1 : ((a :: l).filter fun b => b.level.toNat == a.level.toNat) = a :: (l.filter fun b => b.level.toNat == a.level.toNat) := by simp
      rw [e1, List.map_cons, List.filter_cons]
      simp only [bne_self_eq_false, Bool.false_eq_true, if_false]
      rw [List.filter_eq_self.2]
      intro m hm
      obtain ⟨b, hb, rfl⟩ := List.mem_map.1 hm
      have hb' := (List.mem_filter.1 hb).1
      simp only [bne_iff_ne, ne_eq]
      intro e
      exact hn'.1 (List.mem_map.2 ⟨b, hb', e⟩)
    · rw [if_neg e]
      have e1 : ((a :: l).filter fun b => b.level.toNat == n) = (l.filter fun b => b.level.toNat == n) := by
        rw [List.filter_cons]
        have hne : ¬ a.level.toNat = n := fun h => e h.symm
        have : (a.level.toNat == n) = false := by simp [hne]
        rw [this]; rfl
      rw [e1] at hold
      exact hold
def goE (tables : List AddD) (log : Int) : EdD := ⟨log, -1, 5, [], tables⟩
def outE (tables : List AddD) : EdD := ⟨-1, -1, -1, placesA tables, []⟩
def lowE (log : Int) : EdD := ⟨log, -1, -1, [], []⟩
theorem countS_nil {s : StD} (h : ∀ n, n < 4 → s.lv n = []) : countS s = 0 ∧ apartS s = true := by
  unfold countS apartS
  rw [h 0 (by omega), h 1 (by omega), h 2 (by omega), h 3 (by omega)]
  exact ⟨rfl, rfl⟩
theorem goes_law {tables : List AddD} {log : Int} (hlog : 1 ≤ log ∧ log ≤ 1000) (hlen : tables.length ≤ 20) (h : (docApply emptyS (goE tables log)).2 = 0) :
    (docApply emptyS (goE tables log)).1.log = log ∧ (∀ i, i < 4 → ((docApply emptyS (goE tables log)).1.lv i).length ≤ 20) ∧ (log ≠ 1 → docApply (docApply emptyS (goE tables log)).1 (lowE (log - 1)) = (noS, 1)) ∧
    ∃ t, docApply (docApply emptyS (goE tables log)).1 (outE tables) = (t, 0) ∧ t.log = log ∧ t.next = 1 ∧ t.seq = 5 ∧ (∀ n, n < 4 → t.lv n = []) ∧ (tables ≠ [] → docApply t (outE tables) = (noS, 7)) := by
  unfold docApply at h
  cases hr : rightB (goE tables log) with
  | false => rw [hr] at h; simp at h
  | true =>
    have hb : badB emptyS (goE tables log) = false := by
      have : ¬ log < 1 := by omega
      simp [badB, emptyS, goE, this]
    have hE : docApply emptyS (goE tables log) = applyGo emptyS (goE tables log) := by unfold docApply; rw [hr, hb]; rfl
    rw [hr, hb] at h
    simp only [Bool.true_eq_false, Bool.false_eq_true, if_false] at h
    have hG : applyGo emptyS (goE tables log) = applyNew emptyS (goE tables log) := rfl
    rw [hG] at h hE
    cases hN : newS emptyS tables with
    | none =>
      have : applyNew emptyS (goE tables log) = (noS, 8) := by unfold applyNew; show (match newS emptyS tables with | none => _ | some s2 => _) = _; rw [hN]
      rw [this] at h; simp at h
    | some s2 =>
      have hA : applyNew emptyS (goE tables log) = applyEnd s2 (goE tables log) := by unfold applyNew; show (match newS emptyS tables with | none => _ | some s2 => _) = _; rw [hN]
      rw [hA] at h hE
      have hEnd : applyEnd s2 (goE tables log) = (tellS s2 (goE tables log), 0) := by
        unfold applyEnd at h ⊢
        split at h
        · simp at h
        · split at h
          · simp at h
          · rename_i h1 h2
            rw [if_neg h1, if_neg h2]
      rw [hEnd] at hE
      rw [hE]
      have hadd : ∀ a ∈ tables, addB a = true := by
        unfold rightB at hr
        simp only [Bool.and_eq_true] at hr
        exact List.all_eq_true.1 hr.2
      have h4 : lvl4 tables := fun a ha => by
        have := hadd a ha
        simp only [addB, Bool.and_eq_true, decide_eq_true_eq] at this
        exact this.1
      obtain ⟨hhas, hnd⟩ := newS_has tables emptyS s2 [] hN h4 (fun a ha => by cases ha) (fun n _ => List.Perm.refl _) List.nodup_nil
      rw [List.nil_append] at hhas hnd
      obtain ⟨n1, n2, n3⟩ := newS_nums _ _ _ hN
      have hlogs : (tellS s2 (goE tables log)).log = log := by unfold tellS told goE; simp only; rw [if_pos (by omega)]
      have hnexts : (tellS s2 (goE tables log)).next = 1 := by unfold tellS told goE; simp only; rw [if_neg (by omega), n2]; rfl
      have hseqs : (tellS s2 (goE tables log)).seq = 5 := rfl
      refine ⟨hlogs, fun i hi => ?_, fun hl1 => ?_, ?_⟩
      · have h1 := (hhas i hi).length_eq
        rw [List.length_map] at h1
        have h2 := List.length_filter_le (fun a : AddD => a.level.toNat == i) tables
        show (s2.lv i).length ≤ 20
        omega
      · have hr1 : rightB (lowE (log - 1)) = true := by
          unfold rightB
          rw [Bool.and_eq_true, Bool.and_eq_true, headB_iff]
          refine ⟨⟨⟨⟨by show -1 ≤ log - 1; omega, by show log - 1 ≠ 0; omega, by show log - 1 ≤ 1000000; omega⟩, (by decide : (-1 : Int) ≤ -1 ∧ (-1 : Int) ≠ 0 ∧ (-1 : Int) ≤ 1000000), (by decide : (-1 : Int) ≤ -1 ∧ (-1 : Int) ≤ 72057594037927935), (Nat.zero_le _), (Nat.zero_le _)⟩, rfl⟩, rfl⟩
        have hb1 : badB (tellS s2 (goE tables log)) (lowE (log - 1)) = true := by
          unfold badB
          rw [hlogs]
          have e1 : decide (0 ≤ (lowE (log - 1)).log) = true := decide_eq_true (by show 0 ≤ log - 1; omega)
          have e2 : decide ((lowE (log - 1)).log < log) = true := decide_eq_true (by show log - 1 < log; omega)
          rw [e1, e2]; rfl
        unfold docApply
        rw [hr1, hb1]; rfl
      · have hro : rightB (outE tables) = true := by
          unfold rightB
          rw [Bool.and_eq_true, Bool.and_eq_true, headB_iff]
          refine ⟨⟨⟨(by decide : (-1 : Int) ≤ -1 ∧ (-1 : Int) ≠ 0 ∧ (-1 : Int) ≤ 1000000), (by decide : (-1 : Int) ≤ -1 ∧ (-1 : Int) ≠ 0 ∧ (-1 : Int) ≤ 1000000), (by decide : (-1 : Int) ≤ -1 ∧ (-1 : Int) ≤ 72057594037927935), by show (placesA tables).length ≤ 1000; unfold placesA; rw [List.length_map]; omega, (Nat.zero_le _)⟩, ?_⟩, rfl⟩
          rw [List.all_eq_true]
          intro p hp
          obtain ⟨a, ha, rfl⟩ := List.mem_map.1 hp
          have := hadd a ha
          simp only [addB, tableB, Bool.and_eq_true, decide_eq_true_eq] at this
          obtain ⟨⟨h1, h2⟩, h3⟩ := this
          simp only [plB, Bool.and_eq_true, decide_eq_true_eq]
          exact ⟨⟨⟨h1, h2⟩, h3.1.1.1.1.1.1⟩, h3.1.1.1.1.1.2⟩
        have hbo : ∀ s, badB s (outE tables) = false := fun s => rfl
        obtain ⟨s3, hs3, hnil⟩ := goneS_has tables (tellS s2 (goE tables log)) h4 hhas hnd
        obtain ⟨m1, m2, m3⟩ := goneS_nums _ _ _ hs3
        obtain ⟨hc, hap⟩ := countS_nil hnil
        have hgo : ∀ s, docApply s (outE tables) = applyGo s (outE tables) := fun s => by unfold docApply; rw [hro, hbo]; rfl
        refine ⟨tellS s3 (outE tables), ?_, ?_, ?_, ?_, hnil, fun hne => ?_⟩
        · rw [hgo]
          unfold applyGo
          show (match goneS _ (placesA tables) with | none => _ | some s1 => _) = _
          rw [hs3]
          show applyEnd s3 (outE tables) = _
          unfold applyEnd
          rw [if_neg (by omega), if_neg (by rw [hap]; decide)]
        · show s3.log = log
          rw [m1, hlogs]
        · show s3.next = 1
          rw [m2, hnexts]
        · show s3.seq = 5
          rw [m3, hseqs]
        · rw [hgo]
          unfold applyGo
          show (match goneS _ (placesA tables) with | none => _ | some s1 => _) = _
          cases tables with
          | nil => exact absurd rfl hne
          | cons a l =>
            have ha4 := h4 a List.mem_cons_self
            have e0 : goneS (tellS s3 (outE (a :: l))) (placesA (a :: l)) = none := by
              show (if (withoutL (s3.lv a.level.toNat) a.t.file).length < (s3.lv a.level.toNat).length then _ else none) = _
              rw [hnil a.level.toNat (by omega)]
              rfl
            rw [e0]
end Go.Proofs.Ytheanmfdfoefoaa
set_option linter.unusedVariables false
set_option linter.unusedSimpArgs false
namespace Go.Proofs.Ytheanmfdfoefoaa
open Go Go.RowKit

/-- No key lies in both. -/
def Disj (x y : MetaD) : Prop := slt x.last y.first = true ∨ slt y.last x.first = true
theorem apart_disj {l : List MetaD} (hs : Srt l) (hg : ∀ m ∈ l, tableB m = true) : apartL l = true ↔ l.Pairwise Disj := by
  constructor
  · intro ha
    rw [List.pairwise_iff_getElem]
    intro i j hi hj hij
    exact .inl (apart_far ha hg j i hj hij)
  · intro hp
    rw [apart_iff]
    intro k hk
    have h0 := List.pairwise_iff_getElem.1 hp k (k + 1) (by omega) hk (by omega)
    have h1 := List.pairwise_iff_getElem.1 hs k (k + 1) (by omega) hk (by omega)
    have ht := hg l[k + 1] (List.getElem_mem hk)
    simp only [tableB, Bool.and_eq_true] at ht
    rcases h0 with h0 | h0
    · rw [sle_not, h0]; rfl
    · have h2 := lt_le_trans ht.2 h0
      rw [sle_not, h2] at h1; cases h1
def lvT (l : List AddD) (n : Nat) : List MetaD := (l.filter fun a => a.level.toNat == n).map (·.t)
/-- These tables may be there together. -/
structure OkA (l : List AddD) : Prop where
  add : ∀ a ∈ l, addB a = true
  nd : (filesA l).Nodup
  ap : ∀ n, 1 ≤ n → n < 4 → (lvT l n).Pairwise Disj
theorem lvT_perm {l l' : List AddD} (h : l.Perm l') (n : Nat) : (lvT l n).Perm (lvT l' n) := (h.filter _).map _
theorem disj_perm {l l' : List MetaD} (h : l.Perm l') (hp : l.Pairwise Disj) : l'.Pairwise Disj := (h.pairwise_iff fun {_ _} h => Or.symm h).1 hp
theorem OkA.perm {l l' : List AddD} (h : OkA l) (hp : l.Perm l') : OkA l' :=
  ⟨fun a ha => h.add a (hp.mem_iff.2 ha), (hp.map _).nodup_iff.1 h.nd, fun n h1 h4 => disj_perm (lvT_perm hp n) (h.ap n h1 h4)⟩
theorem OkA.left {l l' : List AddD} (h : OkA (l ++ l')) : OkA l := by
  refine ⟨fun a ha => h.add a (List.mem_append_left _ ha), ?_, fun n h1 h4 => ?_⟩
  · have := h.nd
    unfold filesA at this ⊢
    rw [List.map_append] at this
    exact (List.nodup_append.1 this).1
  · have := h.ap n h1 h4
    unfold lvT at this ⊢
    rw [List.filter_append, List.map_append] at this
    exact (List.pairwise_append.1 this).1
theorem okA_nil : OkA [] := ⟨fun a h => absurd h List.not_mem_nil, List.nodup_nil, fun n _ _ => List.Pairwise.nil⟩
theorem add_lvl4 {l : List AddD} (h : ∀ a ∈ l, addB a = true) : lvl4 l := fun a ha => by
  have := h a ha
  simp only [addB, Bool.and_eq_true, decide_eq_true_eq] at this
  exact this.1
theorem HasT.perm {s : StD} {l l' : List AddD} (h : HasT s l) (hp : l.Perm l') : HasT s l' := fun n hn => (h n hn).trans (lvT_perm hp n)
theorem hasT_empty : HasT emptyS [] := fun n _ => List.Perm.refl _
theorem hasB_file {s : StD} {l : List AddD} (h4 : lvl4 l) (hs : HasT s l) {f : Int} (h : hasB s f = true) : f ∈ filesA l := by
  rw [hasB_iff] at h
  obtain ⟨m, hm, rfl⟩ := h
  have key : ∀ n, n < 4 → m ∈ s.lv n → m.file ∈ filesA l := by
    intro n hn hm
    obtain ⟨a, ha, rfl⟩ := List.mem_map.1 ((hs n hn).mem_iff.1 hm)
    exact List.mem_map.2 ⟨a, (List.mem_filter.1 ha).1, rfl⟩
  unfold allS at hm
  simp only [List.mem_append] at hm
  rcases hm with hm | hm | hm | hm
  · exact key 0 (by omega) hm
  · exact key 1 (by omega) hm
  · exact key 2 (by omega) hm
  · exact key 3 (by omega) hm
theorem hasT_put {s : StD} {l0 : List AddD} {a : AddD} (hs : HasT s l0) : HasT (s.with a.level.toNat (putL (s.lv a.level.toNat) a.t a.level.toNat)) (l0 ++ [a]) := by
  intro n hn4
  rw [with_lv, List.filter_append, List.map_append]
  by_cases e : n = a.level.toNat
  · subst e
    rw [if_pos rfl]
    have e1 : ([a].filter fun b => b.level.toNat == a.level.toNat) = [a] := by simp
    rw [e1]
    refine (putL_perm _ _ _).trans ?_
    refine ((hs _ hn4).cons a.t).trans ?_
    simpa using (List.perm_append_comm (l₁ := [a.t]) (l₂ := (l0.filter fun b => b.level.toNat == a.level.toNat).map (·.t)))
  · rw [if_neg e]
    have hne : ¬ a.level.toNat = n := fun h => e h.symm
    have e1 : ([a].filter fun b => b.level.toNat == n) = [] := by simp [hne]
    rw [e1]
    simpa using hs n hn4
theorem newS_none : ∀ (l : List AddD) (s : StD) (l0 : List AddD), newS s l = none → lvl4 l → lvl4 l0 → HasT s l0 → ¬ (filesA (l0 ++ l)).Nodup := by
  intro l
  induction l with
  | nil => intro s l0 h; cases h
  | cons a l ih =>
    intro s l0 h h4 h40 hs hnd
    simp only [newS] at h
    cases hb : hasB s a.t.file with
    | true =>
      have := hasB_file h40 hs hb
      unfold filesA at hnd this
      rw [List.map_append, List.nodup_append] at hnd
      exact hnd.2.2 _ this _ (by simp) rfl
    | false =>
      rw [hb] at h
      simp only [Bool.false_eq_true, if_false] at h
      have ha4 := h4 a List.mem_cons_self
      refine ih _ (l0 ++ [a]) h (fun b hb => h4 b (List.mem_cons_of_mem _ hb)) (fun b hb => ?_) (hasT_put hs) ?_
      · rcases List.mem_append.1 hb with hb | hb
        · exact h40 b hb
        · rw [List.mem_singleton] at hb; subst hb; exact ha4
      · rw [List.append_assoc]; exact hnd
theorem lvT_count : ∀ (l : List AddD), lvl4 l → (lvT l 0).length + (lvT l 1).length + (lvT l 2).length + (lvT l 3).length = l.length := by
  intro l
  induction l with
  | nil => intro _; rfl
  | cons a l ih =>
    intro h4
    have := ih fun b hb => h4 b (List.mem_cons_of_mem _ hb)
    obtain ⟨h0, h1⟩ := h4 a List.mem_cons_self
    have hc : ∀ n, (lvT (a :: l) n).length = (lvT l n).length + if a.level.toNat = n then 1 else 0 := by
      intro n
      unfold lvT
      rw [List.filter_cons]
      by_cases e : a.level.toNat = n
      · subst e; simp
      · have : (a.level.toNat == n) = false := by simp [e]
        rw [this]; simp [e]
    rw [hc, hc, hc, hc, List.length_cons]
    obtain e | e | e | e : a.level.toNat = 0 ∨ a.level.toNat = 1 ∨ a.level.toNat = 2 ∨ a.level.toNat = 3 := by omega
    all_goals rw [e]; simp; omega
theorem hasT_count {s : StD} {l : List AddD} (h : HasT s l) (h4 : lvl4 l) : countS s = l.length := by
  have hl : ∀ n, n < 4 → (s.lv n).length = (lvT l n).length := fun n hn => (h n hn).length_eq
  unfold countS
  rw [hl 0 (by omega), hl 1 (by omega), hl 2 (by omega), hl 3 (by omega), lvT_count l h4]
theorem mid_apart {s : StD} {l : List AddD} (hm : Mid s) (h : HasT s l) : apartS s = true ↔ ∀ n, 1 ≤ n → n < 4 → (lvT l n).Pairwise Disj := by
  have key : ∀ n, 1 ≤ n → n < 4 → (apartL (s.lv n) = true ↔ (lvT l n).Pairwise Disj) := fun n h1 h4 => by
    rw [apart_disj (hm.srt n h1 h4) fun m hm' => hm.good n m hm']
    exact ⟨disj_perm (h n h4), disj_perm (h n h4).symm⟩
  constructor
  · intro ha n h1 h4
    exact (key n h1 h4).1 (apartS_lv ha (by omega) h4)
  · intro ha
    unfold apartS
    rw [(key 1 (by omega) (by omega)).2 (ha 1 (by omega) (by omega)), (key 2 (by omega) (by omega)).2 (ha 2 (by omega) (by omega)), (key 3 (by omega) (by omega)).2 (ha 3 (by omega) (by omega))]
    rfl
def addE (l : List AddD) : EdD := ⟨-1, -1, -1, [], l⟩
theorem addE_right {l : List AddD} (h : l.length ≤ 1000) : rightB (addE l) = l.all addB := by
  unfold rightB
  have : headB (addE l) = true := by
    rw [headB_iff]
    exact ⟨(by decide : (-1 : Int) ≤ -1 ∧ (-1 : Int) ≠ 0 ∧ (-1 : Int) ≤ 1000000), (by decide : (-1 : Int) ≤ -1 ∧ (-1 : Int) ≠ 0 ∧ (-1 : Int) ≤ 1000000), (by decide : (-1 : Int) ≤ -1 ∧ (-1 : Int) ≤ 72057594037927935), Nat.zero_le _, h⟩
  rw [this]
  rfl
theorem add_law {s : StD} {l0 l : List AddD} (hw : Wf0 s) (hs : HasT s l0) (hok : OkA l0) (hlen : l0.length + l.length ≤ 1000) :
    ((docApply s (addE l)).2 = 0 → OkA (l0 ++ l) ∧ HasT (docApply s (addE l)).1 (l0 ++ l) ∧ (docApply s (addE l)).1.log = s.log ∧ (docApply s (addE l)).1.next = s.next ∧ (docApply s (addE l)).1.seq = s.seq) ∧ (OkA (l0 ++ l) → (docApply s (addE l)).2 = 0) := by
  have hbo : ∀ s, badB s (addE l) = false := fun s => rfl
  have h40 := add_lvl4 hok.add
  cases hr : l.all addB with
  | false =>
    have e : docApply s (addE l) = (noS, 2) := by
      unfold docApply
      rw [addE_right (by omega), hr]; rfl
    rw [e]
    refine ⟨fun h => by simp at h, fun h => ?_⟩
    have : l.all addB = true := List.all_eq_true.2 fun a ha => h.add a (List.mem_append_right _ ha)
    rw [hr] at this; cases this
  | true =>
    have hadd := List.all_eq_true.1 hr
    have h4 := add_lvl4 hadd
    have e : docApply s (addE l) = applyNew s (addE l) := by
      unfold docApply
      rw [addE_right (by omega), hr, hbo]; rfl
    cases hN : newS s l with
    | none =>
      have e2 : applyNew s (addE l) = (noS, 8) := by
        unfold applyNew
        show (match newS s l with | none => _ | some s2 => _) = _
        rw [hN]
      rw [e, e2]
      refine ⟨fun h => by simp at h, fun h => ?_⟩
      exact absurd h.nd (newS_none l s l0 hN h4 h40 hs)
    | some s2 =>
      have e2 : applyNew s (addE l) = applyEnd s2 (addE l) := by
        unfold applyNew
        show (match newS s l with | none => _ | some s2 => _) = _
        rw [hN]
      obtain ⟨hhas, hnd⟩ := newS_has l s s2 l0 hN h4 h40 hs hok.nd
      have hmid := newS_mid l s s2 hw.mid hadd hN
      have hall : ∀ a ∈ l0 ++ l, addB a = true := fun a ha => (List.mem_append.1 ha).elim (hok.add a) (hadd a)
      have hc := hasT_count hhas (add_lvl4 hall)
      rw [List.length_append] at hc
      have hap := mid_apart hmid hhas
      obtain ⟨n1, n2, n3⟩ := newS_nums _ _ _ hN
      rw [e, e2]
      unfold applyEnd
      rw [if_neg (by omega)]
      cases ha : apartS s2 with
      | false =>
        rw [if_pos rfl]
        refine ⟨fun h => by simp at h, fun h => ?_⟩
        have := hap.2 h.ap
        rw [ha] at this; cases this
      | true =>
        rw [if_neg (by decide)]
        exact ⟨fun _ => ⟨⟨hall, hnd, hap.1 ha⟩, hhas, n1, n2, n3⟩, fun _ => rfl⟩
/-- Two states that hold the same tables are the same. -/
theorem hasT_eq {s s' : StD} {l l' : List AddD} (hw : Wf0 s) (hw' : Wf0 s') (h : HasT s l) (h' : HasT s' l') (hp : l.Perm l') : ∀ n, n < 4 → s.lv n = s'.lv n := by
  intro n hn
  have hq : (s.lv n).Perm (s'.lv n) := (h n hn).trans ((lvT_perm hp n).trans (h' n hn).symm)
  by_cases h0 : n = 0
  · subst h0
    exact srtF_eq hq hw'.o0 (hw.o0.imp fun h => Int.le_of_lt h)
  · exact srt_apart hq (hw'.mid.srt n (by omega) hn) (hw.mid.srt n (by omega) hn) (fun m hm => hw'.good n m hm) (.inl (apartS_lv hw'.ap (by omega) hn))
end Go.Proofs.Ytheanmfdfoefoaa
