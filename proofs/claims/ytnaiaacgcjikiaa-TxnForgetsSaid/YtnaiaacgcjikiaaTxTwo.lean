/- Two books side by side, one of which forgets: plain law and frames. -/
import Derived.Test.YtnaiaacgcjikiaaTxF
import Derived.Test.YtnaiaacgcjikiaaTxFirst
set_option linter.unusedVariables false
set_option linter.unusedSimpArgs false
namespace Go.Proofs.Ytnaiaacgcjikiaa
open Go Go.RowKit Hv
structure Two (H : Hp) (n : Nat) (Sa Sb : Nat → Prop) (a b : Nat) (Pa Pb : List (Nat × Nat)) (Da Db : SysD) : Prop where
  ha : Sys H n Sa a Pa Da
  hb : Sys H n Sb b Pb Db
  dis : ∀ j, Sa j → ¬ Sb j
def Or2 (Sa Sb : Nat → Prop) : Nat → Prop := fun j => Sa j ∨ Sb j
section
variable {H H' : Hp} {n n' a b : Nat} {Sa Sb : Nat → Prop} {Pa Pb : List (Nat × Nat)} {Da Db : SysD}
theorem Two.left (h : Two H n Sa Sb a b Pa Pb Da Db) {Pa' : List (Nat × Nat)} {Da' : SysD} {res r : AV} (hP : SysP H n Sa a Pa' Da' res r H' n') :
    r = res ∧ ∃ Sa', Two H' n' Sa' Sb a b Pa' Pb Da' Db ∧ n ≤ n' ∧ ∀ j, j < n → ¬ Or2 Sa Sb j → H' j = H j ∧ ¬ Or2 Sa' Sb j := by
  obtain ⟨h1, S', h2, h3, h4⟩ := hP
  have hd : ∀ j, Sb j → ¬ Sa j := fun j hb ha => h.dis j ha hb
  exact ⟨h1, S', ⟨h2, h.hb.frame h3 fun j hj => (h4 j (h.hb.lt j hj) (hd j hj)).1, fun j hj hb => (h4 j (h.hb.lt j hb) (hd j hb)).2 hj⟩, h3, fun j hj hs => ⟨(h4 j hj fun x => hs (.inl x)).1, fun hx => hx.elim (h4 j hj fun x => hs (.inl x)).2 fun x => hs (.inr x)⟩⟩
theorem Two.right (h : Two H n Sa Sb a b Pa Pb Da Db) {Pb' : List (Nat × Nat)} {Db' : SysD} {res r : AV} (hP : SysP H n Sb b Pb' Db' res r H' n') :
    r = res ∧ ∃ Sb', Two H' n' Sa Sb' a b Pa Pb' Da Db' ∧ n ≤ n' ∧ ∀ j, j < n → ¬ Or2 Sa Sb j → H' j = H j ∧ ¬ Or2 Sa Sb' j := by
  obtain ⟨h1, S', h2, h3, h4⟩ := hP
  exact ⟨h1, S', ⟨h.ha.frame h3 fun j hj => (h4 j (h.ha.lt j hj) (h.dis j hj)).1, h2, fun j ha hb => (h4 j (h.ha.lt j ha) (h.dis j ha)).2 hb⟩, h3, fun j hj hs => ⟨(h4 j hj fun x => hs (.inr x)).1, fun hx => hx.elim (fun x => hs (.inl x)) (h4 j hj fun x => hs (.inr x)).2⟩⟩
theorem Two.u (h : Two H n Sa Sb a b Pa Pb Da Db) {m : Nat} {o : Option AO} (hm : ¬ Or2 Sa Sb m) : Two (upd H m o) n Sa Sb a b Pa Pb Da Db :=
  ⟨h.ha.u fun x => hm (.inl x), h.hb.u fun x => hm (.inr x), h.dis⟩
theorem Two.new (h : Two H n Sa Sb a b Pa Pb Da Db) {m : Nat} {o : Option AO} (hm : n ≤ m) (hn : n ≤ n') : Two (upd H m o) n' Sa Sb a b Pa Pb Da Db :=
  ⟨h.ha.new hm hn, h.hb.new hm hn, h.dis⟩
theorem Two.same (h : Two H n Sa Sb a b Pa Pb Da Db) (hn : n ≤ n') (hh : ∀ j, j < n → H' j = H j) : Two H' n' Sa Sb a b Pa Pb Da Db :=
  ⟨h.ha.frame hn fun j hj => hh j (h.ha.lt j hj), h.hb.frame hn fun j hj => hh j (h.hb.lt j hj), h.dis⟩
theorem Two.nu (h : Two H n Sa Sb a b Pa Pb Da Db) {m : Nat} (hm : n ≤ m) : ¬ Or2 Sa Sb m := fun x => x.elim (h.ha.nu hm) (h.hb.nu hm)
end
/-- The two books answer alike. -/
structure Same (Da Db : SysD) (top : Int) : Prop where
  tx : Da.txns = Db.txns
  st : ∀ t ∈ Da.txns, 0 ≤ t.start ∧ t.start ≤ top
  na : ∀ k v, lookE Da.notes.1 k = some v → v ≤ top
  nb : ∀ k v, lookE Db.notes.1 k = some v → v ≤ top
  eq : ∀ t ∈ Da.txns, t.over = false → ∀ k, decide ((lookE Da.notes.1 k).getD 0 > t.start) = decide ((lookE Db.notes.1 k).getD 0 > t.start)
  top0 : 0 ≤ top
section
variable {Da Db : SysD} {top : Int}
theorem Same.zero : Same ⟨([], 0), []⟩ ⟨([], 0), []⟩ 0 := ⟨rfl, fun t ht => absurd ht List.not_mem_nil, fun k v h => by simp [lookE] at h, fun k v h => by simp [lookE] at h, fun t ht => absurd ht List.not_mem_nil, Int.le_refl _⟩
theorem Same.raise (h : Same Da Db top) {top' : Int} (ht : top ≤ top') : Same Da Db top' :=
  ⟨h.tx, fun t hm => ⟨(h.st t hm).1, Int.le_trans (h.st t hm).2 ht⟩, fun k v hk => Int.le_trans (h.na k v hk) ht, fun k v hk => Int.le_trans (h.nb k v hk) ht, h.eq, Int.le_trans h.top0 ht⟩
theorem Same.openN (h : Same Da Db top) : Go.Proofs.Ytnaiaacgcjikiaa.openN Da = Go.Proofs.Ytnaiaacgcjikiaa.openN Db := by unfold Go.Proofs.Ytnaiaacgcjikiaa.openN; rw [h.tx]
theorem lookE_of {κ ν : Type} [DecidableEq κ] {es : List (Ent κ ν)} (hn : (es.map (·.key)).Nodup) {x : Ent κ ν} (hx : x ∈ es) : lookE es x.key = some x.val := by
  cases h : lookE es x.key with
  | none => exact absurd rfl (lookE_none.1 h x hx)
  | some v =>
    obtain ⟨y, hy, hk, hv⟩ := lookE_mem h
    obtain ⟨i, hi⟩ := List.mem_iff_getElem?.1 hx
    obtain ⟨j, hj⟩ := List.mem_iff_getElem?.1 hy
    obtain ⟨q1, q2⟩ := List.getElem?_eq_some_iff.1 hi
    obtain ⟨q3, q4⟩ := List.getElem?_eq_some_iff.1 hj
    have hp := List.pairwise_iff_getElem.1 hn
    rcases Nat.lt_trichotomy i j with hij | hij | hij
    · have := hp i j (by simpa using q1) (by simpa using q3) hij
      simp only [List.getElem_map, q2, q4] at this
      exact absurd hk.symm this
    · subst hij
      rw [hi] at hj
      injection hj with hj
      rw [← hv, hj]
    · have := hp j i (by simpa using q3) (by simpa using q1) hij
      simp only [List.getElem_map, q2, q4] at this
      exact absurd hk this
theorem look_later {es : List (Ent Nm Int)} {c : Nat} (hok : MapOk es c) (z : Int) (k : Nm) : lookE (laterL es z) k = match lookE es k with | some v => if v ≤ z then none else some v | none => none := by
  cases h : lookE es k with
  | none => exact lookE_none.2 fun e he => lookE_none.1 h e (List.mem_filter.1 he).1
  | some v =>
    obtain ⟨y, hy, rfl, rfl⟩ := lookE_mem h
    by_cases hv : y.val ≤ z
    · simp only [hv, if_true]
      refine lookE_none.2 fun e he hk => ?_
      obtain ⟨h1, h2⟩ := List.mem_filter.1 he
      have := ent_of_key hok h1 hy hk
      rw [this, decide_eq_true hv] at h2
      cases h2
    · simp only [hv, if_false]
      exact lookE_of (hok.keys.sublist (List.filter_sublist.map _)) (List.mem_filter.2 ⟨hy, by rw [decide_eq_false hv]; rfl⟩)
theorem Same.forget (h : Same Da Db top) (hok : MapOk Db.notes.1 Db.notes.2) {l : List Int} (hl : LooksL Db l) (ht : top ≤ 72057594037927935) : Same Da (Db.forgot l) top := by
  refine ⟨h.tx, h.st, h.na, fun k v hk => ?_, fun t hm ho k => ?_, h.top0⟩
  · have hk : lookE (laterL Db.notes.1 (leastOf l)) k = some v := hk
    rw [look_later hok] at hk
    cases hq : lookE Db.notes.1 k with
    | none => rw [hq] at hk; cases hk
    | some u =>
      rw [hq] at hk
      simp only at hk
      split at hk
      · cases hk
      · injection hk with hk
        rw [← hk]; exact h.nb k u hq
  · rw [h.eq t hm ho k]
    show _ = decide ((lookE (laterL Db.notes.1 (leastOf l)) k).getD 0 > t.start)
    rw [look_later hok]
    have hle : leastOf l ≤ t.start := by
      have hz : t.start ∈ l := (hl.mem _).2 ⟨t, by rw [← h.tx]; exact hm, ho, rfl⟩
      cases l with
      | nil => cases hz
      | cons z l =>
        show z ≤ t.start
        rcases List.mem_cons.1 hz with hz | hz
        · omega
        · have := List.rel_of_pairwise_cons hl.rise hz
          omega
    cases hq : lookE Db.notes.1 k with
    | none => rfl
    | some u =>
      simp only
      by_cases hu : u ≤ leastOf l
      · simp only [hu, if_true]
        have h0 := (h.st t hm).1
        have e1 : ¬ (some u).getD 0 > t.start := by show ¬ u > t.start; omega
        have e2 : ¬ (none : Option Int).getD 0 > t.start := by show ¬ (0 : Int) > t.start; omega
        rw [decide_eq_false e1, decide_eq_false e2]
      · simp only [hu, if_false]
theorem Same.begin (h : Same Da Db top) : Same (Da.begun top) (Db.begun top) top := by
  refine ⟨by unfold SysD.begun; rw [h.tx], fun t hm => ?_, h.na, h.nb, fun t hm ho k => ?_, h.top0⟩
  · rcases List.mem_append.1 hm with hm | hm
    · exact h.st t hm
    · rw [List.mem_singleton.1 hm]; exact ⟨h.top0, Int.le_refl _⟩
  · rcases List.mem_append.1 hm with hm | hm
    · exact h.eq t hm ho k
    · rw [List.mem_singleton.1 hm]
      have f : ∀ o : Option Int, (∀ v, o = some v → v ≤ top) → ¬ o.getD 0 > top := fun o ho => by
        cases o with
        | none => have := h.top0; show ¬ (0 : Int) > top; omega
        | some v => have := ho v rfl; show ¬ v > top; omega
      show decide ((lookE Da.notes.1 k).getD 0 > top) = decide ((lookE Db.notes.1 k).getD 0 > top)
      rw [decide_eq_false (f _ (h.na k)), decide_eq_false (f _ (h.nb k))]
theorem Same.set (h : Same Da Db top) {i : Nat} {t t' : TxnD} (ht : Da.txns[i]? = some t) (hs : t'.start = t.start) (ho : t'.over = false → t.over = false) : Same ⟨Da.notes, Da.txns.set i t'⟩ ⟨Db.notes, Db.txns.set i t'⟩ top := by
  have hm0 := List.mem_of_getElem? ht
  refine ⟨by show Da.txns.set i t' = Db.txns.set i t'; rw [h.tx], fun u hm => ?_, h.na, h.nb, fun u hm hu k => ?_, h.top0⟩
  · rcases List.mem_or_eq_of_mem_set hm with hm | rfl
    · exact h.st u hm
    · rw [hs]; exact h.st t hm0
  · rcases List.mem_or_eq_of_mem_set hm with hm | rfl
    · exact h.eq u hm hu k
    · rw [hs]; exact h.eq t hm0 (ho hu) k
theorem Same.put (h : Same Da Db top) {i : Nat} {t : TxnD} (ht : Da.txns[i]? = some t) (o : OpD) : Same (Da.put i t o) (Db.put i t o) top :=
  h.set ht (chTxn_start _ _) fun hu => by rw [chTxn_over] at hu; exact hu
theorem Same.abort (h : Same Da Db top) {i : Nat} {t : TxnD} (ht : Da.txns[i]? = some t) : Same (Da.ended i t Da.notes) (Db.ended i t Db.notes) top :=
  h.set ht rfl fun hu => by cases hu
theorem Same.clash (h : Same Da Db top) {t : TxnD} (ht : t ∈ Da.txns) : Da.clash t = Db.clash t := by
  unfold SysD.clash
  cases ho : t.over with
  | true => rfl
  | false => 
    congr 1
    exact List.any_congr rfl fun e => h.eq t ht ho e.key
theorem noteAll_look : ∀ (l : List OpD) (s : Int) (k : Nm), (∃ v, s ≤ v ∧ v < s + (l.length : Int) ∧ ∀ x, lookE (noteAll x l s).1 k = some v) ∨ (∀ x, lookE (noteAll x l s).1 k = lookE x.1 k)
  | [], s, k => .inr fun x => rfl
  | o :: l, s, k => by
    have ih := noteAll_look l (s + 1) k
    have hc : ((o :: l).length : Int) = (l.length : Int) + 1 := by simp
    rcases ih with ⟨v, h1, h2, h3⟩ | ih
    · refine .inl ⟨v, by omega, by omega, fun x => ?_⟩
      unfold noteAll
      split <;> exact h3 _
    · by_cases ho : o.key.size ≤ 64
      · by_cases hk : k = ⟨o.key, ho⟩
        · refine .inl ⟨s, Int.le_refl _, by omega, fun x => ?_⟩
          unfold noteAll
          rw [dif_pos ho, ih, lookE_put, if_pos hk]
        · refine .inr fun x => ?_
          unfold noteAll
          rw [dif_pos ho, ih, lookE_put, if_neg hk]
      · refine .inr fun x => ?_
        unfold noteAll
        rw [dif_neg ho, ih]
theorem Same.comErr (h : Same Da Db top) {t : TxnD} (ht : t ∈ Da.txns) (seq : Int) : Da.comErr t seq = Db.comErr t seq := by
  unfold SysD.comErr; rw [h.clash ht]
theorem Same.com (h : Same Da Db top) {i : Nat} {t : TxnD} (ht : Da.txns[i]? = some t) : Same (Da.com i t (top + 1)) (Db.com i t (top + 1)) (top + 1 + ((opsOf t).length : Int)) := by
  have hm := List.mem_of_getElem? ht
  have hr : Same Da Db (top + 1 + ((opsOf t).length : Int)) := h.raise (by omega)
  have he := h.comErr hm (top + 1)
  unfold SysD.com
  rw [← he]
  by_cases c0 : Da.comErr t (top + 1) = 0
  · rw [if_pos c0, if_pos c0]
    have ho : t.over = false := by
      unfold SysD.comErr at c0
      split at c0
      · cases c0
      · split at c0
        · cases c0
        · next hh => simpa using hh
    have hl : opsOf t = opsL t.ops := by unfold opsOf; rw [ho]; rfl
    have hs := hr.abort ht
    refine ⟨hs.tx, hs.st, fun k v hk => ?_, fun k v hk => ?_, fun u hu huo k => ?_, hr.top0⟩
    · rcases noteAll_look (opsL t.ops) (top + 1) k with ⟨w, h1, h2, h3⟩ | h3
      · have hk := (h3 _).symm.trans hk
        injection hk with hk
        rw [hl]; omega
      · exact hr.na k v ((h3 _).symm.trans hk)
    · rcases noteAll_look (opsL t.ops) (top + 1) k with ⟨w, h1, h2, h3⟩ | h3
      · have hk := (h3 _).symm.trans hk
        injection hk with hk
        rw [hl]; omega
      · exact hr.nb k v ((h3 _).symm.trans hk)
    · show decide ((lookE (noteAll Da.notes (opsL t.ops) (top + 1)).1 k).getD 0 > u.start) = decide ((lookE (noteAll Db.notes (opsL t.ops) (top + 1)).1 k).getD 0 > u.start)
      rcases noteAll_look (opsL t.ops) (top + 1) k with ⟨w, h1, h2, h3⟩ | h3
      · rw [h3, h3]
      · rw [h3, h3]
        exact hs.eq u hu huo k
  · rw [if_neg c0, if_neg c0]
    by_cases c1 : Da.comErr t (top + 1) = 11
    · rw [if_pos c1, if_pos c1]
      exact hr.abort ht
    · rw [if_neg c1, if_neg c1]
      exact hr
end
end Go.Proofs.Ytnaiaacgcjikiaa
