/- keep: which versions are kept, said of sets; what a sorted list shows. Plain: no program in sight. -/
import Derived.Test.YticplbnnmajcpaaKeepDoc
namespace Go.Proofs.Yticplbnnmajcpaa
open Go Go.RowKit

theorem slt_keys {a b : CellD} (h : lessV a b = true) (hk : keqB a b = false) : slt a.key b.key = true := by
  rw [less_iff] at h
  rcases h with h | ⟨e, _⟩
  · exact h
  · rw [keqB_no] at hk; exact absurd e hk
/-- The groups of a sorted list: each sorted, of one key, the keys rising. -/
theorem grp_spec : ∀ (n : Nat) (l : List CellD), l.length ≤ n → sortedL l = true →
    (∀ g ∈ grp l, g ≠ [] ∧ sortedL g = true ∧ (∀ x ∈ g, x ∈ l) ∧ ∀ x ∈ g, ∀ y ∈ g, keqB x y = true) ∧ (grp l).Pairwise (fun g h => ∀ x ∈ g, ∀ y ∈ h, slt x.key y.key = true) := by
  intro n
  induction n with
  | zero =>
    intro l hl _
    obtain rfl := List.eq_nil_of_length_eq_zero (Nat.le_zero.1 hl)
    simp [grp]
  | succ n ih =>
    intro l hl hso
    cases l with
    | nil => simp [grp]
    | cons c l =>
      have hsp := sorted_pair.1 hso
      have hsub : (l.dropWhile (keqB c)).Sublist l := List.dropWhile_sublist _
      have htw : ∀ x ∈ l.takeWhile (keqB c), keqB c x = true := fun x hx => by
        have h := List.all_takeWhile (l := l) (p := keqB c)
        exact List.all_eq_true.1 h x hx
      have hsame : ∀ x ∈ c :: l.takeWhile (keqB c), keqB c x = true := fun x hx => by
        rcases List.mem_cons.1 hx with rfl | hx
        · exact keqB_refl _
        · exact htw x hx
      have hdw : ∀ y, (l.dropWhile (keqB c)).head? = some y → keqB c y = false := fun y hy => by
        have := List.head?_dropWhile_not (keqB c) l
        rw [hy] at this
        simpa using this
      have hsd0 : (l.dropWhile (keqB c)).Pairwise (fun a b => lessV a b = true) := List.Pairwise.sublist hsub (List.pairwise_cons.1 hsp).2
      have hfar : ∀ y ∈ l.dropWhile (keqB c), slt c.key y.key = true := by
        intro y hy
        rcases hd : l.dropWhile (keqB c) with _ | ⟨z, d⟩
        · rw [hd] at hy; simp at hy
        · have hz := hdw z (by rw [hd]; rfl)
          rw [hd] at hsd0
          have hcz : lessV c z = true := (List.pairwise_cons.1 hsp).1 z (hsub.subset (by rw [hd]; simp))
          have hczk := slt_keys hcz hz
          rw [hd] at hy
          rcases List.mem_cons.1 hy with rfl | hy
          · exact hczk
          · have h1 := less_keys ((List.pairwise_cons.1 hsd0).1 y hy)
            rcases slt_tri z.key y.key with h | h | h
            · exact slt_trans hczk h
            · rw [← toList_inj h]; exact hczk
            · rw [h] at h1; cases h1
      have hi := ih (l.dropWhile (keqB c)) (by
          have := hsub.length_le
          simp only [List.length_cons] at hl; omega) (sorted_pair.2 hsd0)
      rw [grp_cons]
      refine ⟨fun g hg => ?_, List.pairwise_cons.2 ⟨fun g hg x hx y hy => ?_, hi.2⟩⟩
      · rcases List.mem_cons.1 hg with rfl | hg
        · refine ⟨by simp, sorted_pair.2 (hsp.sublist (List.Sublist.cons_cons _ (List.takeWhile_sublist _))), fun x hx => ?_, fun x hx y hy => ?_⟩
          · rcases List.mem_cons.1 hx with rfl | hx
            · simp
            · exact List.mem_cons_of_mem _ ((List.takeWhile_sublist _).subset hx)
          · have h1 := hsame x hx
            have h2 := hsame y hy
            rw [← keqB_fun h1]; exact h2
        · obtain ⟨h1, h2, h3, h4⟩ := hi.1 g hg
          exact ⟨h1, h2, fun x hx => List.mem_cons_of_mem _ (hsub.subset (h3 x hx)), h4⟩
      · have h1 := hsame x hx
        rw [keqB_iff] at h1
        rw [← h1]
        exact hfar y ((hi.1 g hg).2.2.1 y hy)
theorem mem_grp {l : List CellD} {c : CellD} (h : c ∈ l) : ∃ g ∈ grp l, c ∈ g := by
  rw [← grp_flat l] at h
  obtain ⟨g, hg, hc⟩ := List.mem_flatten.1 h
  exact ⟨g, hg, hc⟩
/-- Two of one key are in one group. -/
theorem grp_same {l : List CellD} (hso : sortedL l = true) {g : List CellD} (hg : g ∈ grp l) {c x : CellD} (hc : c ∈ g) (hx : x ∈ l) (hk : keqB c x = true) : x ∈ g := by
  obtain ⟨h, hh, hxh⟩ := mem_grp hx
  have hsp := grp_spec l.length l (Nat.le_refl _) hso
  obtain ⟨i, hi, rfl⟩ := List.mem_iff_getElem.1 hg
  obtain ⟨j, hj, rfl⟩ := List.mem_iff_getElem.1 hh
  rw [keqB_iff] at hk
  rcases Nat.lt_trichotomy i j with h | h | h
  · have := (List.pairwise_iff_getElem.1 hsp.2) i j hi hj h c hc x hxh
    rw [hk, slt_irrefl] at this; cases this
  · subst h; exact hxh
  · have := (List.pairwise_iff_getElem.1 hsp.2) j i hj hi h x hxh c hc
    rw [hk, slt_irrefl] at this; cases this
theorem seenG_sub {looks : List Int} : ∀ {l : List CellD} {p : Option CellD}, (seenG looks p l).Sublist l := by
  intro l
  induction l with
  | nil => intro p; exact List.Sublist.refl _
  | cons c l ih =>
    intro p
    simp only [seenG]
    split
    · exact List.Sublist.cons_cons _ ih
    · simp only [List.nil_append]; exact List.Sublist.cons _ ih
theorem trim_pre (bottom : Bool) (l : List CellD) : trimB bottom l <+: l := by
  unfold trimB
  split
  · have h : (l.reverse.dropWhile (·.kind == 0)) <:+ l.reverse := List.dropWhile_suffix _
    have := List.reverse_prefix.2 h
    rwa [List.reverse_reverse] at this
  · exact List.prefix_refl _
theorem trim_keeps {bottom : Bool} {l : List CellD} {c : CellD} (h : c ∈ l) (hk : bottom = false ∨ c.kind ≠ 0) : c ∈ trimB bottom l := by
  unfold trimB
  rcases hk with rfl | hk
  · simpa using h
  · split
    · rw [List.mem_reverse]
      have h' : c ∈ l.reverse := by simpa using h
      have key : ∀ l : List CellD, c ∈ l → c ∈ l.dropWhile (·.kind == 0) := by
        intro l
        induction l with
        | nil => intro h; exact h
        | cons x l ih =>
          intro h
          rw [List.dropWhile_cons]
          split
          · rename_i hx
            rcases List.mem_cons.1 h with rfl | h
            · exact absurd (by simpa using hx) hk
            · exact ih h
          · exact h
      exact key _ h'
    · exact h
/-- All that is seen. -/
def seenS (l : List CellD) (looks : List Int) : List CellD := (grp l).flatMap (seenG looks none)
theorem keep_sub (l : List CellD) (looks : List Int) (bottom : Bool) : (keepL l looks bottom).Sublist l := by
  have key : ∀ gs : List (List CellD), (gs.flatMap fun g => trimB bottom (seenG looks none g)).Sublist gs.flatten := by
    intro gs
    induction gs with
    | nil => exact List.Sublist.refl _
    | cons g gs ih =>
      simp only [List.flatMap_cons, List.flatten_cons]
      exact List.Sublist.append ((trim_pre _ _).sublist.trans seenG_sub) ih
  have := key (grp l)
  rw [grp_flat] at this
  exact this
/-- The newest version of its key up to a number. -/
def newest (l : List CellD) (at' : Int) (c : CellD) : Prop := c ∈ l ∧ c.seq ≤ at' ∧ ∀ x ∈ l, keqB c x = true → x.seq ≤ at' → x = c ∨ lessV c x = true
theorem seen_newest {looks : List Int} {at' : Int} (ha : at' ∈ looks ++ [maxSeq]) : ∀ (g : List CellD) (p : Option CellD), sortedL g = true → (∀ x ∈ g, ∀ y ∈ g, keqB x y = true) → (match p with | none => True | some y => at' < y.seq) → ∀ c, newest g at' c → c ∈ seenG looks p g := by
  intro g
  induction g with
  | nil => intro p _ _ _ c hc; exact absurd hc.1 (by simp)
  | cons x g ih =>
    intro p hso hsame hp c hc
    simp only [seenG, List.mem_append]
    by_cases hx : x.seq ≤ at'
    · have hcx : x = c := by
        rcases hc.2.2 x (by simp) (hsame c hc.1 x (by simp)) hx with h | h
        · exact h
        · rcases List.mem_cons.1 hc.1 with h' | h'
          · exact h'.symm
          · have h2 := (List.pairwise_cons.1 (sorted_pair.1 hso)).1 c h'
            rw [less_asym h2] at h; cases h
      subst hcx
      left
      have : seenP looks p x = true := by
        unfold seenP
        rw [List.any_eq_true]
        refine ⟨at', ha, ?_⟩
        cases p with
        | none => simpa using hx
        | some y => simp only at hp; simp [hx, hp]
      rw [if_pos this]; simp
    · right
      have hso' : sortedL g = true := sorted_pair.2 (List.pairwise_cons.1 (sorted_pair.1 hso)).2
      refine ih (some x) hso' (fun a ha b hb => hsame a (List.mem_cons_of_mem _ ha) b (List.mem_cons_of_mem _ hb)) (by simp only; omega) c ⟨?_, hc.2.1, fun y hy => hc.2.2 y (List.mem_cons_of_mem _ hy)⟩
      rcases List.mem_cons.1 hc.1 with h | h
      · subst h; exact absurd hc.2.1 hx
      · exact h
theorem newest_grp {l : List CellD} (hso : sortedL l = true) {at' : Int} {c : CellD} (h : newest l at' c) : ∃ g ∈ grp l, newest g at' c := by
  obtain ⟨g, hg, hc⟩ := mem_grp h.1
  have hsp := (grp_spec l.length l (Nat.le_refl _) hso).1 g hg
  exact ⟨g, hg, hc, h.2.1, fun x hx hk hx2 => h.2.2 x (hsp.2.2.1 x hx) hk hx2⟩
theorem newest_seen {l : List CellD} (hso : sortedL l = true) {looks : List Int} {at' : Int} (ha : at' ∈ looks ++ [maxSeq]) {c : CellD} (h : newest l at' c) : ∃ g ∈ grp l, c ∈ seenG looks none g := by
  obtain ⟨g, hg, hn⟩ := newest_grp hso h
  have hsp := (grp_spec l.length l (Nat.le_refl _) hso).1 g hg
  exact ⟨g, hg, seen_newest ha g none hsp.2.1 hsp.2.2.2 trivial c hn⟩
theorem newest_keep {l : List CellD} (hso : sortedL l = true) {looks : List Int} {bottom : Bool} {at' : Int} (ha : at' ∈ looks ++ [maxSeq]) {c : CellD} (h : newest l at' c) (hk : bottom = false ∨ c.kind ≠ 0) : c ∈ keepL l looks bottom := by
  obtain ⟨g, hg, hs⟩ := newest_seen hso ha h
  exact List.mem_flatMap.2 ⟨g, hg, trim_keeps hs hk⟩
theorem prefix_less {s t : List CellD} (hp : t <+: s) (hs : s.Pairwise (fun a b => lessV a b = true)) {x c : CellD} (hx : x ∈ s) (hc : c ∈ t) (h : lessV x c = true) : x ∈ t := by
  obtain ⟨u, rfl⟩ := hp
  rcases List.mem_append.1 hx with h' | h'
  · exact h'
  · have := (List.pairwise_append.1 hs).2.2 c hc x h'
    rw [less_asym h] at this; cases this
/-- There is a newest one, if there is any. -/
theorem newest_ex {at' : Int} : ∀ {l : List CellD}, sortedL l = true → ∀ {x : CellD}, x ∈ l → x.seq ≤ at' → ∃ c, newest l at' c ∧ keqB c x = true ∧ (c = x ∨ lessV c x = true) := by
  intro l
  induction l with
  | nil => intro _ x h; simp at h
  | cons y l ih =>
    intro hso x hx hxs
    have hp := List.pairwise_cons.1 (sorted_pair.1 hso)
    by_cases hy : keqB y x = true ∧ y.seq ≤ at'
    · refine ⟨y, ⟨by simp, hy.2, fun z hz _ _ => ?_⟩, hy.1, ?_⟩
      · rcases List.mem_cons.1 hz with rfl | hz
        · exact .inl rfl
        · exact .inr (hp.1 z hz)
      · rcases List.mem_cons.1 hx with rfl | hx
        · exact .inl rfl
        · exact .inr (hp.1 x hx)
    · have hx' : x ∈ l := by
        rcases List.mem_cons.1 hx with rfl | h
        · exact absurd ⟨keqB_refl _, hxs⟩ hy
        · exact h
      obtain ⟨c, hc, hk, hl⟩ := ih (sorted_pair.2 hp.2) hx' hxs
      refine ⟨c, ⟨List.mem_cons_of_mem _ hc.1, hc.2.1, fun z hz hzk hzs => ?_⟩, hk, hl⟩
      rcases List.mem_cons.1 hz with rfl | hz
      · refine absurd ⟨?_, hzs⟩ hy
        rw [keqB_iff] at *; rw [← hzk, hk]
      · exact hc.2.2 z hz hzk hzs
/-- What is kept shows what the list shows. -/
theorem keep_newest {l : List CellD} (hso : sortedL l = true) {looks : List Int} {bottom : Bool} {at' : Int} (ha : at' ∈ looks ++ [maxSeq]) (c : CellD) (hk : c.kind ≠ 0) : newest (keepL l looks bottom) at' c ↔ newest l at' c := by
  have hsub := keep_sub l looks bottom
  constructor
  · intro h
    refine ⟨hsub.subset h.1, h.2.1, fun x hx hxk hxs => ?_⟩
    obtain ⟨n, hn, hnk, hnx⟩ := newest_ex hso hx hxs
    obtain ⟨g, hg, hns⟩ := newest_seen hso ha hn
    -- c lies in the same group
    obtain ⟨g', hg', hcg⟩ := List.mem_flatMap.1 h.1
    have hsp := (grp_spec l.length l (Nat.le_refl _) hso).1
    have hng : n ∈ g := seenG_mem hns
    have hcg' : c ∈ g' := seenG_mem (trim_mem hcg)
    have hcn : keqB n c = true := by rw [keqB_iff] at *; rw [hnk, hxk]
    have hng' : n ∈ g' := grp_same hso hg' hcg' ((hsp g hg).2.2.1 n hng) (by rw [keqB_comm]; exact hcn)
    have hgg : n ∈ seenG looks none g' := seen_newest ha g' none (hsp g' hg').2.1 (hsp g' hg').2.2.2 trivial n ⟨hng', hn.2.1, fun z hz hzk hzs => hn.2.2 z ((hsp g' hg').2.2.1 z hz) hzk hzs⟩
    have hnkeep : lessV n c = true → n ∈ keepL l looks bottom := fun hl =>
      List.mem_flatMap.2 ⟨g', hg', prefix_less (trim_pre _ _) ((sorted_pair.1 (hsp g' hg').2.1).sublist seenG_sub) hgg hcg hl⟩
    have hnc : n = c := by
      rcases hn.2.2 c (hsub.subset h.1) hcn h.2.1 with e | hl
      · exact e.symm
      · rcases h.2.2 n (hnkeep hl) (by rw [keqB_comm]; exact hcn) hn.2.1 with e | hl'
        · exact e
        · rw [less_asym hl] at hl'; cases hl'
    subst hnc
    rcases hnx with e | hl
    · exact .inl e.symm
    · exact .inr hl
  · intro h
    exact ⟨newest_keep hso ha h (.inr hk), h.2.1, fun x hx hxk hxs => h.2.2 x (hsub.subset hx) hxk hxs⟩
end Go.Proofs.Yticplbnnmajcpaa
