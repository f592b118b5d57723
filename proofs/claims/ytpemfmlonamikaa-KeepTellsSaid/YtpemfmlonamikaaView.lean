/- What a sorted list shows up to a number; lists that show the same; lists put together. Plain: no program in sight. -/
import Derived.Test.YtpemfmlonamikaaKeepSet
namespace Go.Proofs.Ytpemfmlonamikaa
open Go Go.RowKit

def viewB (at' : Int) (pre : List CellD) (c : CellD) : Bool := decide (c.seq ≤ at') && pre.all (fun x => !keqB x c || decide (at' < x.seq)) && c.kind == 1
def viewD (at' : Int) : List CellD → List CellD → List CellD
  | _, [] => []
  | pre, c :: l => (if viewB at' pre c then [c] else []) ++ viewD at' (pre ++ [c]) l
theorem newest_mid {at' : Int} {pre l : List CellD} {c : CellD} (hs : sortedL (pre ++ c :: l) = true) : newest (pre ++ c :: l) at' c ↔ c.seq ≤ at' ∧ ∀ x ∈ pre, keqB x c = true → ¬ x.seq ≤ at' := by
  have hp := List.pairwise_append.1 (sorted_pair.1 hs)
  constructor
  · intro h
    refine ⟨h.2.1, fun x hx hk hxs => ?_⟩
    have hl := hp.2.2 x hx c (by simp)
    rcases h.2.2 x (by simp [hx]) (by rw [keqB_comm]; exact hk) hxs with e | h'
    · subst e; rw [less_irrefl] at hl; cases hl
    · rw [less_asym hl] at h'; cases h'
  · intro ⟨h1, h2⟩
    refine ⟨by simp, h1, fun x hx hk hxs => ?_⟩
    rcases List.mem_append.1 hx with hx | hx
    · exact absurd hxs (h2 x hx (by rw [keqB_comm]; exact hk))
    · rcases List.mem_cons.1 hx with rfl | hx
      · exact .inl rfl
      · exact .inr ((List.pairwise_cons.1 hp.2.1).1 x hx)
theorem view_mem {at' : Int} : ∀ {l pre : List CellD}, sortedL (pre ++ l) = true → ∀ c, c ∈ viewD at' pre l ↔ (c ∈ l ∧ newest (pre ++ l) at' c ∧ c.kind = 1) := by
  intro l
  induction l with
  | nil => intro pre _ c; simp [viewD]
  | cons y l ih =>
    intro pre hs c
    have e : pre ++ y :: l = (pre ++ [y]) ++ l := by simp
    have hi := ih (pre := pre ++ [y]) (by rw [← e]; exact hs) c
    simp only [viewD, List.mem_append]
    rw [hi, ← e]
    have hv : viewB at' pre y = true ↔ newest (pre ++ y :: l) at' y ∧ y.kind = 1 := by
      rw [newest_mid hs]
      unfold viewB
      simp only [Bool.and_eq_true, decide_eq_true_eq, List.all_eq_true, Bool.or_eq_true, Bool.not_eq_true', beq_iff_eq]
      constructor
      · rintro ⟨⟨h1, h2⟩, h3⟩
        refine ⟨⟨h1, fun x hx hk => ?_⟩, h3⟩
        rcases h2 x hx with h | h
        · rw [h] at hk; cases hk
        · omega
      · rintro ⟨⟨h1, h2⟩, h3⟩
        refine ⟨⟨h1, fun x hx => ?_⟩, h3⟩
        rcases hk : keqB x y with _ | _
        · exact .inl rfl
        · right; have := h2 x hx hk; omega
    constructor
    · rintro (h | ⟨h1, h2⟩)
      · split at h
        · rename_i hb
          have : c = y := by simpa using h
          subst this
          obtain ⟨a, b⟩ := hv.1 hb
          exact ⟨by simp, a, b⟩
        · simp at h
      · exact ⟨List.mem_cons_of_mem _ h1, h2⟩
    · rintro ⟨h1, h2, h3⟩
      rcases List.mem_cons.1 h1 with rfl | h1
      · left; rw [if_pos (hv.2 ⟨h2, h3⟩)]; simp
      · exact .inr ⟨h1, h2, h3⟩
theorem view_sub {at' : Int} : ∀ {l pre : List CellD}, (viewD at' pre l).Sublist l := by
  intro l
  induction l with
  | nil => intro pre; exact List.Sublist.refl _
  | cons c l ih =>
    intro pre
    simp only [viewD]
    split
    · exact List.Sublist.cons_cons _ ih
    · simp only [List.nil_append]; exact List.Sublist.cons _ ih
theorem pw_of {α : Type} {R S : α → α → Prop} : ∀ {l : List α}, l.Pairwise R → (∀ a ∈ l, ∀ b ∈ l, R a b → S a b) → l.Pairwise S := by
  intro l
  induction l with
  | nil => intro _ _; exact List.Pairwise.nil
  | cons a l ih =>
    intro h hs
    have hp := List.pairwise_cons.1 h
    exact List.pairwise_cons.2 ⟨fun b hb => hs a (by simp) b (by simp [hb]) (hp.1 b hb), ih hp.2 fun x hx y hy => hs x (by simp [hx]) y (by simp [hy])⟩
/-- What is shown has each key once, in their order. -/
theorem view_keys {at' : Int} {l : List CellD} (hs : sortedL l = true) : (viewD at' [] l).Pairwise (fun a b => slt a.key b.key = true) := by
  have hp := (sorted_pair.1 hs).sublist (view_sub (at' := at') (pre := []))
  refine pw_of hp fun a ha b hb hab => ?_
  rcases hk : keqB a b with _ | _
  · exact slt_keys hab hk
  · have h1 := ((view_mem (pre := []) (at' := at') (by simpa using hs) a).1 ha).2.1
    have h2 := ((view_mem (pre := []) (at' := at') (by simpa using hs) b).1 hb).2.1
    simp only [List.nil_append] at h1 h2
    rcases h2.2.2 a h1.1 (by rw [keqB_comm]; exact hk) h1.2.1 with e | h
    · subst e; rw [less_irrefl] at hab; cases hab
    · rw [less_asym hab] at h; cases h
theorem keys_ext : ∀ {l m : List CellD}, l.Pairwise (fun a b => slt a.key b.key = true) → m.Pairwise (fun a b => slt a.key b.key = true) → (∀ c, c ∈ l ↔ c ∈ m) → l = m := by
  intro l
  induction l with
  | nil =>
    intro m _ _ h
    cases m with
    | nil => rfl
    | cons b m => exact absurd ((h b).2 (by simp)) (by simp)
  | cons a l ih =>
    intro m hl hm h
    cases m with
    | nil => exact absurd ((h a).1 (by simp)) (by simp)
    | cons b m =>
      have h1 := List.pairwise_cons.1 hl
      have h2 := List.pairwise_cons.1 hm
      have hab : a = b := by
        rcases List.mem_cons.1 ((h a).1 (by simp)) with e | ha
        · exact e
        · rcases List.mem_cons.1 ((h b).2 (by simp)) with e | hb
          · exact e.symm
          · have h3 := h2.1 a ha
            rw [slt_asym (h1.1 b hb)] at h3; cases h3
      subst hab
      congr 1
      refine ih h1.2 h2.2 fun c => ?_
      constructor
      · intro hc
        rcases List.mem_cons.1 ((h c).1 (by simp [hc])) with e | h'
        · subst e; have := h1.1 c hc; rw [slt_irrefl] at this; cases this
        · exact h'
      · intro hc
        rcases List.mem_cons.1 ((h c).2 (by simp [hc])) with e | h'
        · subst e; have := h2.1 c hc; rw [slt_irrefl] at this; cases this
        · exact h'
/-- Two sorted lists whose newest versions are the same show the same. -/
theorem view_ext {at' : Int} {l m : List CellD} (hl : sortedL l = true) (hm : sortedL m = true) (h : ∀ c, c.kind ≠ 0 → (newest l at' c ↔ newest m at' c)) : viewD at' [] l = viewD at' [] m := by
  refine keys_ext (view_keys hl) (view_keys hm) fun c => ?_
  rw [view_mem (pre := []) (by simpa using hl), view_mem (pre := []) (by simpa using hm)]
  simp only [List.nil_append]
  constructor
  · rintro ⟨_, h2, h3⟩
    have := (h c (by omega)).1 h2
    exact ⟨this.1, this, h3⟩
  · rintro ⟨_, h2, h3⟩
    have := (h c (by omega)).2 h2
    exact ⟨this.1, this, h3⟩
theorem sorted_sub {l m : List CellD} (h : l.Sublist m) (hm : sortedL m = true) : sortedL l = true := sorted_pair.2 ((sorted_pair.1 hm).sublist h)
theorem keep_view {l : List CellD} (hso : sortedL l = true) {looks : List Int} {bottom : Bool} {at' : Int} (ha : at' ∈ looks ++ [maxSeq]) : viewD at' [] (keepL l looks bottom) = viewD at' [] l :=
  view_ext (sorted_sub (keep_sub _ _ _) hso) hso fun c hc => keep_newest hso ha c hc

/-! ### lists put together -/
/-- The document's step: the versions of two lists, of one version twice the first's. -/
def mergeD : Nat → List CellD → List CellD → List CellD
  | 0, _, _ => []
  | _ + 1, [], [] => []
  | n + 1, a :: aa, [] => a :: mergeD n aa []
  | n + 1, [], b :: bs => b :: mergeD n [] bs
  | n + 1, a :: aa, b :: bs => if !lessV b a then (if verEq a b then a :: mergeD n aa bs else a :: mergeD n aa (b :: bs)) else b :: mergeD n (a :: aa) bs
theorem merge_mem : ∀ (n : Nat) (a b : List CellD), a.length + b.length ≤ n → sortedL a = true → sortedL b = true → (∀ x ∈ a, ∀ y ∈ b, verEq x y = false) → (∀ c, c ∈ mergeD n a b ↔ c ∈ a ∨ c ∈ b) ∧ sortedL (mergeD n a b) = true := by
  intro n
  induction n with
  | zero =>
    intro a b h _ _ _
    obtain rfl := List.eq_nil_of_length_eq_zero (show a.length = 0 by omega)
    obtain rfl := List.eq_nil_of_length_eq_zero (show b.length = 0 by omega)
    simp [mergeD, sortedL]
  | succ n ih =>
    intro a b h ha hb hv
    cases a with
    | nil =>
      cases b with
      | nil => simp [mergeD, sortedL]
      | cons b bs =>
        have hp := List.pairwise_cons.1 (sorted_pair.1 hb)
        obtain ⟨h1, h2⟩ := ih [] bs (by simp at h ⊢; omega) (by simp [sortedL]) (sorted_pair.2 hp.2) (fun x hx => by simp at hx)
        refine ⟨fun c => by simp only [mergeD, List.mem_cons, h1]; simp, ?_⟩
        refine sorted_pair.2 (List.pairwise_cons.2 ⟨fun x hx => ?_, sorted_pair.1 h2⟩)
        rcases (h1 x).1 hx with h | h
        · simp at h
        · exact hp.1 x h
    | cons a aa =>
      have hpa := List.pairwise_cons.1 (sorted_pair.1 ha)
      cases b with
      | nil =>
        obtain ⟨h1, h2⟩ := ih aa [] (by simp at h ⊢; omega) (sorted_pair.2 hpa.2) (by simp [sortedL]) (fun x _ y hy => by simp at hy)
        refine ⟨fun c => by simp only [mergeD, List.mem_cons, h1]; simp, ?_⟩
        refine sorted_pair.2 (List.pairwise_cons.2 ⟨fun x hx => ?_, sorted_pair.1 h2⟩)
        rcases (h1 x).1 hx with h | h
        · exact hpa.1 x h
        · simp at h
      | cons b bs =>
        have hpb := List.pairwise_cons.1 (sorted_pair.1 hb)
        simp only [mergeD]
        rcases hl : lessV b a with _ | _
        · rw [if_pos (show (!false) = true from rfl), if_neg (by rw [hv a (by simp) b (by simp)]; simp)]
          have hab : lessV a b = true := by
            rcases less_tri a b with h | h | h
            · exact h
            · rw [hv a (by simp) b (by simp)] at h; cases h
            · rw [h] at hl; cases hl
          obtain ⟨h1, h2⟩ := ih aa (b :: bs) (by simp at h ⊢; omega) (sorted_pair.2 hpa.2) hb (fun x hx y hy => hv x (by simp [hx]) y hy)
          refine ⟨fun c => by simp only [List.mem_cons, h1, or_assoc], ?_⟩
          refine sorted_pair.2 (List.pairwise_cons.2 ⟨fun x hx => ?_, sorted_pair.1 h2⟩)
          rcases (h1 x).1 hx with h | h
          · exact hpa.1 x h
          · rcases List.mem_cons.1 h with rfl | h
            · exact hab
            · exact less_trans hab (hpb.1 x h)
        · rw [if_neg (by simp)]
          obtain ⟨h1, h2⟩ := ih (a :: aa) bs (by simp at h ⊢; omega) ha (sorted_pair.2 hpb.2) (fun x hx y hy => hv x hx y (by simp [hy]))
          refine ⟨fun c => by simp only [List.mem_cons, h1]; constructor <;> (intro h; rcases h with h | h | h) <;> simp [*] <;> (try (rcases h with h | h <;> simp [h])), ?_⟩
          refine sorted_pair.2 (List.pairwise_cons.2 ⟨fun x hx => ?_, sorted_pair.1 h2⟩)
          rcases (h1 x).1 hx with h | h
          · rcases List.mem_cons.1 h with rfl | h
            · exact hl
            · exact less_trans hl (hpa.1 x h)
          · exact hpb.1 x h
/-- Laid over older versions, what is kept shows what all do. -/
theorem cover_view {h l a b : List CellD} (hh : sortedL h = true) (_hl : sortedL l = true) (ho : ∀ x ∈ h, ∀ y ∈ l, y.seq < x.seq) {looks : List Int} {at' : Int} (hat : at' ∈ looks ++ [maxSeq])
    (hsa : sortedL a = true) (hsb : sortedL b = true) (ha : ∀ c, c ∈ a ↔ c ∈ h ∨ c ∈ l) (hb : ∀ c, c ∈ b ↔ c ∈ keepL h looks false ∨ c ∈ l) : viewD at' [] a = viewD at' [] b := by
  refine view_ext hsa hsb fun c _ => ?_
  have hsub := keep_sub h looks false
  have hold : ∀ x ∈ h, ∀ y ∈ l, keqB x y = true → lessV x y = true := fun x hx y hy hk => by
    rw [less_iff]; rw [keqB_iff] at hk; exact .inr ⟨hk, .inl (ho x hx y hy)⟩
  constructor
  · intro hc
    refine ⟨?_, hc.2.1, fun x hx hk hs => hc.2.2 x ?_ hk hs⟩
    · rcases (ha c).1 hc.1 with h' | h'
      · exact (hb c).2 (.inl (newest_keep hh hat ⟨h', hc.2.1, fun x hx hk hs => hc.2.2 x ((ha x).2 (.inl hx)) hk hs⟩ (.inl rfl)))
      · exact (hb c).2 (.inr h')
    · rcases (hb x).1 hx with h' | h'
      · exact (ha x).2 (.inl (hsub.subset h'))
      · exact (ha x).2 (.inr h')
  · intro hc
    have hnew : ∀ x ∈ h, keqB c x = true → x.seq ≤ at' → x = c ∨ lessV c x = true := fun x hx hk hs => by
      obtain ⟨n, hn, hnk, hnx⟩ := newest_ex hh hx hs
      have hnkeep := newest_keep hh hat hn (bottom := false) (.inl rfl)
      have hcn : keqB c n = true := by rw [keqB_iff] at *; rw [hk, hnk]
      rcases hc.2.2 n ((hb n).2 (.inl hnkeep)) hcn hn.2.1 with e | h'
      · subst e
        rcases hnx with e | h'
        · exact .inl e.symm
        · exact .inr h'
      · right
        rcases hnx with e | h2
        · subst e; exact h'
        · exact less_trans h' h2
    refine ⟨?_, hc.2.1, fun x hx hk hs => ?_⟩
    · rcases (hb c).1 hc.1 with h' | h'
      · exact (ha c).2 (.inl (hsub.subset h'))
      · exact (ha c).2 (.inr h')
    · rcases (ha x).1 hx with h' | h'
      · exact hnew x h' hk hs
      · exact hc.2.2 x ((hb x).2 (.inr h')) hk hs
end Go.Proofs.Ytpemfmlonamikaa
