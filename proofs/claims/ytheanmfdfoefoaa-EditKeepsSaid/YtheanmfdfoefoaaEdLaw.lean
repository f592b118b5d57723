/- Edit: states and the map of their places; sorted levels are alone. Plain: no program in sight. -/
import Derived.Test.YtheanmfdfoefoaaOrd
import Derived.Test.YtheanmfdfoefoaaEdD
import Derived.Test.YtheanmfdfoefoaaHvMap
namespace Go.Proofs.Ytheanmfdfoefoaa
open Go Go.RowKit Hv

theorem slt_trans' {a b c : ByteArray} (h : slt a b = true) (h' : slt b c = true) : slt a c = true := by rw [slt_iff] at *; exact List.lt_trans h h'
theorem slt_irr (a : ByteArray) : slt a a = false := by rw [slt_no]; exact List.not_lt.1 (List.lt_irrefl _)
theorem lt_le_trans {a b c : ByteArray} (h : sle a b = true) (h' : slt b c = true) : slt a c = true := by
  cases hx : slt a c with
  | true => rfl
  | false =>
    have h1 : sle c a = true := by rw [sle_not, hx]; rfl
    have := sle_trans h1 h
    rw [sle_not, h'] at this; cases this
theorem slt_sle {a b : ByteArray} (h : slt a b = true) : sle a b = true := by unfold sle; unfold slt at h; rw [h]; rfl
/-- In the order of the texts with which they begin. -/
def Srt (l : List MetaD) : Prop := l.Pairwise fun x y => sle x.first y.first = true
def Strict (l : List MetaD) : Prop := l.Pairwise fun x y => slt x.first y.first = true
def SrtF (l : List MetaD) : Prop := l.Pairwise fun x y => x.file < y.file
theorem apart_strict {l : List MetaD} (ha : apartL l = true) (hg : ∀ m ∈ l, tableB m = true) : Strict l := by
  unfold Strict
  rw [List.pairwise_iff_getElem]
  intro i j hi hj hij
  have h1 := apart_far ha hg j i hj hij
  have ht := hg l[i] (List.getElem_mem hi)
  simp only [tableB, Bool.and_eq_true] at ht
  exact lt_le_trans ht.2 h1
theorem Strict.srt {l : List MetaD} (h : Strict l) : Srt l := h.imp fun h => slt_sle h
theorem strict_inj {l : List MetaD} (h : Strict l) {a b : MetaD} (ha : a ∈ l) (hb : b ∈ l) (h1 : sle a.first b.first = true) (h2 : sle b.first a.first = true) : a = b := by
  obtain ⟨i, hi, rfl⟩ := List.mem_iff_getElem.1 ha
  obtain ⟨j, hj, rfl⟩ := List.mem_iff_getElem.1 hb
  have hp := List.pairwise_iff_getElem.1 h
  rcases Nat.lt_trichotomy i j with hij | hij | hij
  · have := hp i j hi hj hij
    rw [sle_not, this] at h2; cases h2
  · subst hij; rfl
  · have := hp j i hj hi hij
    rw [sle_not, this] at h1; cases h1
/-- A sorted row that has the tables of one that lies apart is that one. -/
theorem srt_apart {l l' : List MetaD} (hp : l'.Perm l) (hs : Srt l) (hs' : Srt l') (hg : ∀ m ∈ l, tableB m = true) (ha : apartL l = true ∨ apartL l' = true) : l' = l := by
  rcases ha with ha | ha
  · have hst := apart_strict ha hg
    exact hp.eq_of_pairwise (fun a b hb hc h1 h2 => strict_inj hst (hp.mem_iff.1 hb) hc h1 h2) hs' hs
  · have hst := apart_strict ha fun m hm => hg m (hp.mem_iff.1 hm)
    exact hp.eq_of_pairwise (fun a b hb hc h1 h2 => strict_inj hst hb (hp.mem_iff.2 hc) h1 h2) hs' hs
theorem srt_apart_eq {l l' : List MetaD} (hp : l'.Perm l) (hs : Srt l) (hs' : Srt l') (hg : ∀ m ∈ l, tableB m = true) : apartL l' = apartL l := by
  cases h : apartL l with
  | true => rw [srt_apart hp hs hs' hg (.inl h), h]
  | false =>
    cases h' : apartL l' with
    | false => rfl
    | true => rw [srt_apart hp hs hs' hg (.inr h'), h] at h'; cases h'
theorem srtF_eq {l l' : List MetaD} (hp : l'.Perm l) (hs : SrtF l) (hs' : l'.Pairwise fun x y => x.file ≤ y.file) : l' = l := by
  refine hp.eq_of_pairwise (le := fun x y => x.file ≤ y.file) (fun a b ha hb h1 h2 => ?_) hs' (hs.imp fun h => Int.le_of_lt h)
  have ha' := hp.mem_iff.1 ha
  obtain ⟨i, hi, rfl⟩ := List.mem_iff_getElem.1 ha'
  obtain ⟨j, hj, rfl⟩ := List.mem_iff_getElem.1 hb
  have hp' := List.pairwise_iff_getElem.1 hs
  rcases Nat.lt_trichotomy i j with hij | hij | hij
  · have := hp' i j hi hj hij; omega
  · subst hij; rfl
  · have := hp' j i hj hi hij; omega
/-! ### states on the way -/
structure Wf0 (s : StD) : Prop extends Wf s where
  o0 : SrtF (s.lv 0)
  num : 0 ≤ s.log ∧ 0 ≤ s.next ∧ 0 ≤ s.seq
structure Mid (s : StD) : Prop where
  good : ∀ n m, m ∈ s.lv n → tableB m = true
  uq : ((allS s).map (·.file)).Nodup
  o0 : SrtF (s.lv 0)
  srt : ∀ n, 1 ≤ n → n < 4 → Srt (s.lv n)
theorem empty_wf0 : Wf0 emptyS := { empty_wf with o0 := List.Pairwise.nil, num := by decide }
theorem Wf0.mid {s : StD} (h : Wf0 s) : Mid s := ⟨h.good, h.uq, h.o0, fun n h1 h4 => (apart_strict (apartS_lv h.ap (by omega) h4) fun m hm => h.good n m hm).srt⟩
theorem withoutL_sub (l : List MetaD) (f : Int) : (withoutL l f).Sublist l := List.filter_sublist
theorem allS_with_sub {s : StD} {n : Nat} {l : List MetaD} (hl : l.Sublist (s.lv n)) : (allS (s.with n l)).Sublist (allS s) := by
  unfold allS
  have h : ∀ k, ((s.with n l).lv k).Sublist (s.lv k) := fun k => by
    rw [with_lv]
    split
    · rename_i hk; subst hk; exact hl
    · exact List.Sublist.refl _
  exact (h 0).append ((h 1).append ((h 2).append (h 3)))
theorem Mid.gone {s : StD} (h : Mid s) (n : Nat) (f : Int) : Mid (s.with n (withoutL (s.lv n) f)) := by
  have hsub : ∀ k, ((s.with n (withoutL (s.lv n) f)).lv k).Sublist (s.lv k) := fun k => by
    rw [with_lv]
    split
    · rename_i hk; subst hk; exact withoutL_sub _ _
    · exact List.Sublist.refl _
  exact ⟨fun k m hm => h.good k m ((hsub k).subset hm), h.uq.sublist ((allS_with_sub (withoutL_sub _ _)).map _), h.o0.sublist (hsub 0), fun k h1 h4 => (h.srt k h1 h4).sublist (hsub k)⟩
theorem mem_tw {α : Type} {p : α → Bool} {l : List α} {x : α} (h : x ∈ l.takeWhile p) : p x = true := by
  induction l with
  | nil => simp at h
  | cons a l ih =>
    rw [List.takeWhile_cons] at h
    split at h
    · rcases List.mem_cons.1 h with rfl | h
      · assumption
      · exact ih h
    · simp at h
theorem putL_srt {l : List MetaD} {m : MetaD} {n : Nat} (hn : n ≠ 0) (h : Srt l) : Srt (putL l m n) := by
  unfold putL Srt
  have hsp : l.takeWhile (ahead n m) ++ l.dropWhile (ahead n m) = l := List.takeWhile_append_dropWhile
  have h' := h
  unfold Srt at h'
  rw [← hsp, List.pairwise_append] at h'
  obtain ⟨h1, h2, h3⟩ := h'
  have hdw : ∀ y ∈ l.dropWhile (ahead n m), sle m.first y.first = true := by
    cases hd : l.dropWhile (ahead n m) with
    | nil => intro y hy; simp at hy
    | cons y0 r =>
      have hy0 : ahead n m y0 = false := by
        have := List.head?_dropWhile_not (ahead n m) l
        rw [hd] at this
        simpa using this
      unfold ahead at hy0
      rw [if_neg hn] at hy0
      have e0 : sle m.first y0.first = true := by rw [sle_not, hy0]; rfl
      rw [hd] at h2
      intro y hy
      rcases List.mem_cons.1 hy with rfl | hy
      · exact e0
      · exact sle_trans e0 ((List.pairwise_cons.1 h2).1 y hy)
  rw [List.pairwise_append, List.pairwise_cons]
  refine ⟨h1, ⟨hdw, h2⟩, fun a ha b hb => ?_⟩
  rcases List.mem_cons.1 hb with rfl | hb
  · have := mem_tw ha
    unfold ahead at this
    rw [if_neg hn] at this
    exact slt_sle this
  · exact h3 a ha b hb
theorem putL_srtF {l : List MetaD} {m : MetaD} (h : SrtF l) (hm : ∀ x ∈ l, x.file ≠ m.file) : SrtF (putL l m 0) := by
  unfold putL SrtF
  have hsp : l.takeWhile (ahead 0 m) ++ l.dropWhile (ahead 0 m) = l := List.takeWhile_append_dropWhile
  have h' := h
  unfold SrtF at h'
  rw [← hsp, List.pairwise_append] at h'
  obtain ⟨h1, h2, h3⟩ := h'
  have hsub : ∀ y ∈ l.dropWhile (ahead 0 m), y ∈ l := fun y hy => by rw [← hsp]; exact List.mem_append_right _ hy
  have hdw : ∀ y ∈ l.dropWhile (ahead 0 m), m.file < y.file := by
    cases hd : l.dropWhile (ahead 0 m) with
    | nil => intro y hy; simp at hy
    | cons y0 r =>
      have hy0 : ahead 0 m y0 = false := by
        have := List.head?_dropWhile_not (ahead 0 m) l
        rw [hd] at this
        simpa using this
      unfold ahead at hy0
      simp only [if_true, decide_eq_false_iff_not] at hy0
      have hne := hm y0 (hsub y0 (by rw [hd]; simp))
      have e0 : m.file < y0.file := by omega
      rw [hd] at h2
      intro y hy
      rcases List.mem_cons.1 hy with rfl | hy
      · exact e0
      · exact Int.lt_trans e0 ((List.pairwise_cons.1 h2).1 y hy)
  rw [List.pairwise_append, List.pairwise_cons]
  refine ⟨h1, ⟨hdw, h2⟩, fun a ha b hb => ?_⟩
  rcases List.mem_cons.1 hb with rfl | hb
  · have := mem_tw ha
    unfold ahead at this
    simpa using this
  · exact h3 a ha b hb
theorem Mid.new {s : StD} (h : Mid s) {a : AddD} (ha : addB a = true) (hh : hasB s a.t.file = false) : Mid (s.with a.level.toNat (putL (s.lv a.level.toNat) a.t a.level.toNat)) := by
  simp only [addB, Bool.and_eq_true, decide_eq_true_eq] at ha
  obtain ⟨⟨hl0, hl4⟩, ht⟩ := ha
  have hn : a.level.toNat < 4 := by omega
  refine ⟨fun n m hm => ?_, ?_, ?_, fun n h1 h4 => ?_⟩
  · rw [with_lv] at hm
    split at hm
    · rcases List.mem_cons.1 ((putL_perm _ _ _).mem_iff.1 hm) with rfl | h'
      · exact ht
      · exact h.good _ _ h'
    · exact h.good _ _ hm
  · refine (((with_perm s _ hn a.t _).map (·.file)).nodup_iff).2 ?_
    rw [List.map_cons, List.nodup_cons]
    refine ⟨fun hm => ?_, h.uq⟩
    obtain ⟨m, hm, e⟩ := List.mem_map.1 hm
    have := hasB_iff.2 ⟨m, hm, e⟩
    rw [hh] at this
    cases this
  · rw [with_lv]
    split
    · rename_i h0
      rw [← h0]
      refine putL_srtF h.o0 fun x hx e => ?_
      have := hasB_iff.2 ⟨x, mem_allS.2 ⟨0, by omega, hx⟩, e⟩
      rw [hh] at this; cases this
    · exact h.o0
  · rw [with_lv]
    split
    · rename_i h0
      rw [← h0]
      exact putL_srt (by omega) (h.srt n h1 h4)
    · exact h.srt n h1 h4
theorem goneS_mid : ∀ (l : List PlD) (s s' : StD), Mid s → goneS s l = some s' → Mid s' := by
  intro l
  induction l with
  | nil => intro s s' h e; simp only [goneS, Option.some.injEq] at e; subst e; exact h
  | cons p l ih =>
    intro s s' h e
    simp only [goneS] at e
    split at e
    · exact ih _ _ (h.gone _ _) e
    · cases e
theorem newS_mid : ∀ (l : List AddD) (s s' : StD), Mid s → (∀ a ∈ l, addB a = true) → newS s l = some s' → Mid s' := by
  intro l
  induction l with
  | nil => intro s s' h _ e; simp only [newS, Option.some.injEq] at e; subst e; exact h
  | cons a l ih =>
    intro s s' h hl e
    simp only [newS] at e
    split at e
    · cases e
    · rename_i hh
      exact ih _ _ (h.new (hl a (by simp)) (by simpa using hh)) (fun b hb => hl b (by simp [hb])) e
theorem tell_num {s s1 s2 : StD} {e : EdD} (e1 : s1.log = s.log ∧ s1.next = s.next ∧ s1.seq = s.seq) (e2 : s2.log = s1.log ∧ s2.next = s1.next ∧ s2.seq = s1.seq) (h : 0 ≤ s.log ∧ 0 ≤ s.next ∧ 0 ≤ s.seq) : 0 ≤ (tellS s2 e).log ∧ 0 ≤ (tellS s2 e).next ∧ 0 ≤ (tellS s2 e).seq := by
  simp only [tellS, told]
  refine ⟨?_, ?_, ?_⟩
  all_goals (split <;> omega)
theorem docApply_wf0 {s : StD} {e : EdD} (g : Wf0 s) (h : (docApply s e).2 = 0) : Wf0 (docApply s e).1 := by
  unfold docApply at h ⊢
  cases hr : rightB e with
  | false => rw [hr] at h; simp at h
  | true =>
    rw [hr] at h
    simp only [Bool.true_eq_false, if_false] at h ⊢
    cases hb : badB s e with
    | true => rw [hb] at h; simp at h
    | false =>
      rw [hb] at h
      simp only [Bool.false_eq_true, if_false] at h ⊢
      unfold applyGo at h ⊢
      cases hg : goneS s e.gone with
      | none => rw [hg] at h; simp at h
      | some s1 =>
        rw [hg] at h
        simp only at h ⊢
        unfold applyNew at h ⊢
        cases hn : newS s1 e.new with
        | none => rw [hn] at h; simp at h
        | some s2 =>
          rw [hn] at h
          simp only at h ⊢
          have hm := newS_mid _ _ _ (goneS_mid _ _ _ g.mid hg) (fun a ha => by
            unfold rightB at hr
            simp only [Bool.and_eq_true, List.all_eq_true] at hr
            exact hr.2 a ha) hn
          unfold applyEnd at h ⊢
          split at h
          · simp at h
          · rename_i hc
            rw [if_neg hc]
            split at h
            · simp at h
            · rename_i ha
              rw [if_neg ha]
              exact { good := hm.good, uq := hm.uq, ap := (by cases h' : apartS s2 with | true => exact h' | false => exact absurd h' ha), o0 := hm.o0, num := tell_num (goneS_nums _ _ _ hg) (newS_nums _ _ _ hn) g.num }
end Go.Proofs.Ytheanmfdfoefoaa
