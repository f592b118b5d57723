/- keep: kept twice, for fewer looks, for looks in another order; pieces. Plain: no program in sight. -/
import Derived.Test.YtpemfmlonamikaaView
namespace Go.Proofs.Ytpemfmlonamikaa
open Go Go.RowKit

/-! ### kept twice -/
def chainS (looks : List Int) : Option CellD → List CellD → Prop
  | _, [] => True
  | p, c :: l => seenP looks p c = true ∧ chainS looks (some c) l
theorem chain_seen {looks : List Int} : ∀ {l : List CellD} {p : Option CellD}, chainS looks p l → seenG looks p l = l := by
  intro l
  induction l with
  | nil => intro p _; rfl
  | cons c l ih => intro p h; simp only [seenG, h.1, if_true, ih h.2]; rfl
theorem chain_pre {looks : List Int} : ∀ {l m : List CellD} {p : Option CellD}, l <+: m → chainS looks p m → chainS looks p l := by
  intro l
  induction l with
  | nil => intro m p _ _; trivial
  | cons c l ih =>
    intro m p h hm
    obtain ⟨u, rfl⟩ := h
    exact ⟨hm.1, ih ⟨u, rfl⟩ hm.2⟩
def relP : Option CellD → Option CellD → Prop
  | _, none => True
  | some y, some z => y.seq ≤ z.seq
  | none, some _ => False
theorem seenP_rel {looks : List Int} {p q : Option CellD} {c : CellD} (h : relP p q) (hs : seenP looks p c = true) : seenP looks q c = true := by
  unfold seenP at *
  rw [List.any_eq_true] at *
  obtain ⟨a, ha, hb⟩ := hs
  refine ⟨a, ha, ?_⟩
  cases q with
  | none => simp only [Bool.and_eq_true] at hb ⊢; exact ⟨hb.1, trivial⟩
  | some z => cases p with
    | none => exact absurd h id
    | some y =>
      simp only [relP] at h
      simp only [Bool.and_eq_true, decide_eq_true_eq] at hb ⊢
      exact ⟨hb.1, by omega⟩
theorem seq_le {a b : CellD} (h : lessV a b = true) (hk : keqB a b = true) : b.seq ≤ a.seq := by
  rw [less_iff] at h
  rw [keqB_iff] at hk
  rcases h with h | ⟨_, h⟩
  · rw [hk, slt_irrefl] at h; cases h
  · omega
theorem seen_chain {looks : List Int} : ∀ {g : List CellD} {p q : Option CellD}, sortedL g = true → (∀ x ∈ g, ∀ y ∈ g, keqB x y = true) → relP p q → (∀ x ∈ g, relP (some x) q) → chainS looks q (seenG looks p g) := by
  intro g
  induction g with
  | nil => intro p q _ _ _ _; trivial
  | cons c g ih =>
    intro p q hs hk hr hx
    have hp := List.pairwise_cons.1 (sorted_pair.1 hs)
    have hs' := sorted_pair.2 hp.2
    have hk' : ∀ x ∈ g, ∀ y ∈ g, keqB x y = true := fun x h y h' => hk x (by simp [h]) y (by simp [h'])
    simp only [seenG]
    split
    · rename_i hseen
      exact ⟨seenP_rel hr hseen, ih hs' hk' (Int.le_refl _) (fun x h => seq_le (hp.1 x h) (hk c (by simp) x (by simp [h])))⟩
    · simp only [List.nil_append]
      exact ih hs' hk' (hx c (by simp)) (fun x h => hx x (by simp [h]))
theorem dropW_idem {p : CellD → Bool} : ∀ l : List CellD, (l.dropWhile p).dropWhile p = l.dropWhile p := by
  intro l
  induction l with
  | nil => rfl
  | cons x l ih =>
    rw [List.dropWhile_cons]
    split
    · exact ih
    · rename_i h; rw [List.dropWhile_cons, if_neg h]
theorem trim_idem (bottom : Bool) (l : List CellD) : trimB bottom (trimB bottom l) = trimB bottom l := by
  unfold trimB
  split
  · rw [List.reverse_reverse, dropW_idem]
  · rfl
theorem again_grp {looks : List Int} {bottom : Bool} {g : List CellD} (hs : sortedL g = true) (hk : ∀ x ∈ g, ∀ y ∈ g, keqB x y = true) : trimB bottom (seenG looks none (trimB bottom (seenG looks none g))) = trimB bottom (seenG looks none g) := by
  have h1 : chainS looks none (seenG looks none g) := seen_chain hs hk trivial (fun x _ => trivial)
  rw [chain_seen (chain_pre (trim_pre _ _) h1), trim_idem]
theorem grp_flatten : ∀ {gs : List (List CellD)}, (∀ g ∈ gs, g ≠ [] ∧ ∀ x ∈ g, ∀ y ∈ g, keqB x y = true) → gs.Pairwise (fun g h => ∀ x ∈ g, ∀ y ∈ h, slt x.key y.key = true) → grp gs.flatten = gs := by
  intro gs
  induction gs with
  | nil => intro _ _; rfl
  | cons g gs ih =>
    intro h hp
    have hp' := List.pairwise_cons.1 hp
    obtain ⟨hne, hk⟩ := h g (by simp)
    have hl : 0 < g.length := by cases g <;> simp_all
    rw [List.flatten_cons]
    have := grp_cut (g ++ gs.flatten) g.length hl (by simp) (fun j hj => by
        rw [List.getElem_append_left hl, List.getElem_append_left hj]
        exact hk _ (List.getElem_mem _) _ (List.getElem_mem _)) (fun hlt => by
        rw [List.getElem_append_left hl]
        have hx : (g ++ gs.flatten)[g.length] ∈ gs.flatten := by
          rw [List.getElem_append_right (Nat.le_refl _)]; exact List.getElem_mem _
        obtain ⟨h', hh', hxh⟩ := List.mem_flatten.1 hx
        have := hp'.1 h' hh' _ (List.getElem_mem (n := 0) hl) _ hxh
        rw [keqB_no]; intro e; rw [e, slt_irrefl] at this; cases this)
    rw [this, List.take_left', List.drop_left', ih (fun x hx => h x (by simp [hx])) hp'.2] <;> rfl
theorem flat_filter (gs : List (List CellD)) : (gs.filter (fun g => !g.isEmpty)).flatten = gs.flatten := by
  induction gs with
  | nil => rfl
  | cons g gs ih =>
    rw [List.filter_cons]
    split
    · rw [List.flatten_cons, List.flatten_cons, ih]
    · rename_i h; simp at h; rw [List.flatten_cons, ih, h]; rfl
theorem keep_again {l : List CellD} (hso : sortedL l = true) (looks : List Int) (bottom : Bool) : keepL (keepL l looks bottom) looks bottom = keepL l looks bottom := by
  have hsp := grp_spec l.length l (Nat.le_refl _) hso
  have hg : grp (keepL l looks bottom) = ((grp l).map (fun g => trimB bottom (seenG looks none g))).filter (fun g => !g.isEmpty) := by
    have e : keepL l looks bottom = (((grp l).map (fun g => trimB bottom (seenG looks none g))).filter (fun g => !g.isEmpty)).flatten := by
      rw [flat_filter]; rfl
    rw [e]
    apply grp_flatten
    · intro g hg
      obtain ⟨h1, h2⟩ := List.mem_filter.1 hg
      obtain ⟨g', hg', rfl⟩ := List.mem_map.1 h1
      refine ⟨fun e => by rw [e] at h2; simp at h2, fun x hx y hy => (hsp.1 g' hg').2.2.2 x (seenG_mem (trim_mem hx)) y (seenG_mem (trim_mem hy))⟩
    · refine List.Pairwise.filter _ ?_
      rw [List.pairwise_map]
      refine hsp.2.imp ?_
      intro g h hgh x hx y hy
      exact hgh x (seenG_mem (trim_mem hx)) y (seenG_mem (trim_mem hy))
  have e2 : keepL (keepL l looks bottom) looks bottom = ((((grp l).map (fun g => trimB bottom (seenG looks none g))).filter (fun g => !g.isEmpty)).map (fun g => trimB bottom (seenG looks none g))).flatten := by
    rw [← hg]; rfl
  rw [e2]
  have key : ∀ gs : List (List CellD), (∀ g ∈ gs, trimB bottom (seenG looks none g) = g) → ((gs.filter (fun g => !g.isEmpty)).map (fun g => trimB bottom (seenG looks none g))).flatten = gs.flatten := by
    intro gs h
    rw [← flat_filter gs]
    congr 1
    conv => rhs; rw [← List.map_id (gs.filter _)]
    apply List.map_congr_left
    intro g hg
    exact h g (List.mem_filter.1 hg).1
  rw [key]
  · rfl
  · intro g hg
    obtain ⟨g', hg', rfl⟩ := List.mem_map.1 hg
    exact again_grp (hsp.1 g' hg').2.1 (hsp.1 g' hg').2.2.2

/-! ### fewer looks -/
theorem seenP_mono {a b : List Int} (h : ∀ x ∈ a, x ∈ b) {p : Option CellD} {c : CellD} (hs : seenP a p c = true) : seenP b p c = true := by
  unfold seenP at *
  rw [List.any_eq_true] at *
  obtain ⟨x, hx, hb⟩ := hs
  refine ⟨x, ?_, hb⟩
  rcases List.mem_append.1 hx with h' | h'
  · exact List.mem_append.2 (.inl (h x h'))
  · exact List.mem_append.2 (.inr h')
theorem seenG_mono {a b : List Int} (h : ∀ x ∈ a, x ∈ b) : ∀ {l : List CellD} {p : Option CellD}, (seenG a p l).Sublist (seenG b p l) := by
  intro l
  induction l with
  | nil => intro p; exact List.Sublist.refl _
  | cons c l ih =>
    intro p
    simp only [seenG]
    refine List.Sublist.append ?_ ih
    split
    · rename_i hs; rw [if_pos (seenP_mono h hs)]; exact List.Sublist.refl _
    · exact List.nil_sublist _
theorem dropW_mono {p : CellD → Bool} : ∀ {l m : List CellD}, l.Sublist m → (l.dropWhile p).Sublist (m.dropWhile p) := by
  intro l m h
  induction h with
  | slnil => exact List.Sublist.refl _
  | cons a h ih =>
    rename_i l1 l2
    rw [List.dropWhile_cons (x := a)]
    split
    · exact ih
    · exact ((List.dropWhile_sublist _).trans h).trans (List.Sublist.cons _ (List.Sublist.refl _))
  | cons_cons a h ih =>
    rw [List.dropWhile_cons, List.dropWhile_cons]
    split
    · exact ih
    · exact List.Sublist.cons_cons _ h
theorem trim_mono {bottom : Bool} {l m : List CellD} (h : l.Sublist m) : (trimB bottom l).Sublist (trimB bottom m) := by
  unfold trimB
  split
  · exact (dropW_mono h.reverse).reverse
  · exact h
theorem keep_mono {a b : List Int} (h : ∀ x ∈ a, x ∈ b) (l : List CellD) (bottom : Bool) : (keepL l a bottom).Sublist (keepL l b bottom) := by
  unfold keepL
  have key : ∀ gs : List (List CellD), (gs.flatMap fun g => trimB bottom (seenG a none g)).Sublist (gs.flatMap fun g => trimB bottom (seenG b none g)) := by
    intro gs
    induction gs with
    | nil => exact List.Sublist.refl _
    | cons g gs ih =>
      simp only [List.flatMap_cons]
      exact List.Sublist.append (trim_mono (seenG_mono h)) ih
  exact key _
def withinB : List CellD → List CellD → Bool
  | [], _ => true
  | _ :: _, [] => false
  | x :: a, y :: b => if cellEq x y then withinB a b else withinB (x :: a) b
theorem within_sub : ∀ {b a : List CellD}, a.Sublist b → withinB a b = true := by
  intro b
  induction b with
  | nil => intro a h; rw [List.sublist_nil.1 h]; rfl
  | cons y b ih =>
    intro a h
    cases a with
    | nil => rfl
    | cons x a =>
      simp only [withinB]
      split
      · exact ih (List.cons_sublist_cons.1 (by rename_i e; rw [cellEq_iff] at e; subst e; exact h))
      · rename_i e
        cases h with
        | cons _ h => exact ih h
        | cons_cons _ h => exact absurd (cellEq_iff.2 rfl) e
/-- Without looks each key is kept once at most. -/
theorem keep_none {l : List CellD} (hso : sortedL l = true) (hm : ∀ c ∈ l, c.seq ≤ maxSeq) (bottom : Bool) : (keepL l [] bottom).Pairwise (fun a b => slt a.key b.key = true) := by
  have hsp := grp_spec l.length l (Nat.le_refl _) hso
  have hone : ∀ g ∈ grp l, (trimB bottom (seenG [] none g)).length ≤ 1 := by
    intro g hg
    refine Nat.le_trans (trim_pre _ _).length_le ?_
    have hz : ∀ (r : List CellD) (c : CellD), c.seq ≤ maxSeq → (∀ x ∈ r, x.seq ≤ maxSeq) → seenG [] (some c) r = [] := by
      intro r
      induction r with
      | nil => intro c _ _; rfl
      | cons x r ih =>
        intro c hc hr
        have : seenP [] (some c) x = false := by
          simp only [seenP, List.nil_append, List.any_cons, List.any_nil, Bool.or_false, Bool.and_eq_false_iff, decide_eq_false_iff_not]
          right; omega
        simp only [seenG, this, ih x (hr x (by simp)) (fun y hy => hr y (by simp [hy]))]
        rfl
    cases g with
    | nil => simp [seenG]
    | cons c r =>
      have hmg : ∀ x ∈ c :: r, x.seq ≤ maxSeq := fun x hx => hm x ((hsp.1 _ hg).2.2.1 x hx)
      simp only [seenG, hz r c (hmg c (by simp)) (fun x hx => hmg x (by simp [hx])), List.append_nil]
      split <;> simp
  unfold keepL
  rw [List.pairwise_flatMap]
  refine ⟨fun g hg => ?_, ?_⟩
  · have := hone g hg
    rcases h : trimB bottom (seenG [] none g) with _ | ⟨a, _ | ⟨b, t⟩⟩
    · exact List.Pairwise.nil
    · exact List.pairwise_singleton _ _
    · rw [h] at this; simp at this
  · refine hsp.2.imp ?_
    intro g h hgh x hx y hy
    exact hgh x (seenG_mem (trim_mem hx)) y (seenG_mem (trim_mem hy))

/-! ### other looks -/
theorem seenP_congr {a b : List Int} {p : Option CellD} {c : CellD} (hc0 : 0 ≤ c.seq) (hc1 : c.seq ≤ maxSeq) (hp : match p with | none => True | some x => x.seq ≤ maxSeq) (hab : ∀ x ∈ a, x ∈ b ∨ x < 0 ∨ maxSeq ≤ x) (hba : ∀ x ∈ b, x ∈ a ∨ x < 0 ∨ maxSeq ≤ x) : seenP a p c = seenP b p c := by
  have half : ∀ {a b : List Int}, (∀ x ∈ a, x ∈ b ∨ x < 0 ∨ maxSeq ≤ x) → seenP a p c = true → seenP b p c = true := by
    intro a b hab h
    unfold seenP at *
    rw [List.any_eq_true] at *
    obtain ⟨x, hx, hb⟩ := h
    rcases List.mem_append.1 hx with h' | h'
    · rcases hab x h' with h1 | h1 | h1
      · exact ⟨x, List.mem_append.2 (.inl h1), hb⟩
      · simp only [Bool.and_eq_true, decide_eq_true_eq] at hb; omega
      · refine ⟨maxSeq, by simp, ?_⟩
        cases p with
        | none => simpa using hc1
        | some y => simp only [Bool.and_eq_true, decide_eq_true_eq] at hb hp ⊢; omega
    · exact ⟨x, List.mem_append.2 (.inr h'), hb⟩
  rw [Bool.eq_iff_iff]
  exact ⟨half hab, half hba⟩
theorem keep_congr {a b : List Int} (l : List CellD) (hm : ∀ c ∈ l, 0 ≤ c.seq ∧ c.seq ≤ maxSeq) (hso : sortedL l = true) (bottom : Bool) (hab : ∀ x ∈ a, x ∈ b ∨ x < 0 ∨ maxSeq ≤ x) (hba : ∀ x ∈ b, x ∈ a ∨ x < 0 ∨ maxSeq ≤ x) : keepL l a bottom = keepL l b bottom := by
  have hsp := grp_spec l.length l (Nat.le_refl _) hso
  have key : ∀ (g : List CellD) (p : Option CellD), (∀ c ∈ g, 0 ≤ c.seq ∧ c.seq ≤ maxSeq) → (match p with | none => True | some x => x.seq ≤ maxSeq) → seenG a p g = seenG b p g := by
    intro g
    induction g with
    | nil => intro p _ _; rfl
    | cons c g ih =>
      intro p hg hp
      have hc := hg c (by simp)
      simp only [seenG]
      rw [seenP_congr hc.1 hc.2 hp hab hba, ih (some c) (fun x hx => hg x (by simp [hx])) hc.2]
  unfold keepL
  have key2 : ∀ gs : List (List CellD), (∀ g ∈ gs, ∀ c ∈ g, 0 ≤ c.seq ∧ c.seq ≤ maxSeq) → (gs.flatMap fun g => trimB bottom (seenG a none g)) = gs.flatMap fun g => trimB bottom (seenG b none g) := by
    intro gs
    induction gs with
    | nil => intro _; rfl
    | cons g gs ih =>
      intro h
      simp only [List.flatMap_cons]
      rw [key g none (h g (by simp)) trivial, ih fun g' hg' => h g' (by simp [hg'])]
  exact key2 _ fun g hg c hc => hm c ((hsp.1 g hg).2.2.1 c hc)
/-- How many versions have another key or another number than the one ahead. -/
def newB : Option CellD → CellD → Bool
  | none, _ => true
  | some x, c => !keqB x c || !(x.seq == c.seq)
def cntL : Option CellD → List CellD → Nat
  | _, [] => 0
  | p, c :: l => (if newB p c then 1 else 0) + cntL (some c) l
theorem keep_each {each : List Int} : ∀ {l : List CellD} {p : Option CellD} {out : List CellD}, (∀ c ∈ l, c.seq ∈ each ∧ c.seq ≤ maxSeq) → (match p with | none => sortedL l = true | some x => sortedL (x :: l) = true ∧ x.seq ≤ maxSeq) → (keepF each false p out l).length = out.length + cntL p l := by
  intro l
  induction l with
  | nil => intro p out _ _; simp [keepF, cntL]
  | cons c l ih =>
    intro p out hm hs
    have hc := hm c (by simp)
    have hso : sortedL (c :: l) = true := by
      cases p with
      | none => exact hs
      | some x => exact sorted_pair.2 (List.pairwise_cons.1 (sorted_pair.1 hs.1)).2
    have hseen : seenP each (samePrev p c) c = newB p c := by
      cases p with
      | none =>
        have h1 : seenP each (samePrev none c) c = true := by
          show seenP each none c = true
          unfold seenP
          rw [List.any_eq_true]
          exact ⟨c.seq, by simp [hc.1], by simp⟩
        rw [h1]; rfl
      | some x =>
        have hxc := (List.pairwise_cons.1 (sorted_pair.1 hs.1)).1 c (by simp)
        rcases hk : keqB x c with _ | _
        · have h1 : seenP each (samePrev (some x) c) c = true := by
            simp only [samePrev, hk]
            unfold seenP
            rw [List.any_eq_true]
            exact ⟨c.seq, by simp [hc.1], by simp⟩
          rw [h1]; simp [newB, hk]
        · have h0 := seq_le hxc hk
          have h1 : samePrev (some x) c = some x := by simp [samePrev, hk]
          rw [h1]
          by_cases he : x.seq = c.seq
          · have : seenP each (some x) c = false := by
              rw [← Bool.not_eq_true]
              unfold seenP
              rw [List.any_eq_true]
              rintro ⟨a, _, hb⟩
              simp only [Bool.and_eq_true, decide_eq_true_eq] at hb
              omega
            rw [this]; simp [newB, hk, he]
          · have : seenP each (some x) c = true := by
              unfold seenP
              rw [List.any_eq_true]
              refine ⟨c.seq, by simp [hc.1], ?_⟩
              simp only [Bool.and_eq_true, decide_eq_true_eq]
              omega
            rw [this]; simp [newB, hk, he]
    simp only [keepF, hseen]
    have hpop : ∀ o, popK false c o = o := fun o => rfl
    rw [hpop]
    simp only [ite_self]
    rw [ih (p := some c) (fun x hx => hm x (by simp [hx])) ⟨hso, hc.2⟩]
    simp only [cntL, List.length_append]
    split <;> simp <;> omega
end Go.Proofs.Ytpemfmlonamikaa
