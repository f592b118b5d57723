/- Chapter 21, TxnFirst: the plain law, no program's step in sight. -/
import Derived.Test.YtnaiaacgcjikiaaTxRace
set_option linter.unusedVariables false
namespace Go.Proofs.Ytnaiaacgcjikiaa
open Go Go.RowKit Hv
theorem opsL_mem {es : List (Ent Nm OpD)} {clock : Nat} (hok : MapOk es clock) {o : OpD} : o ∈ opsL es ↔ ∃ e ∈ es, e.val = o := by
  have vo : ∀ e ∈ es, valOf es e.key.1 = e.val := fun e he => by unfold valOf; rw [dif_pos e.key.2, mem_lookE hok.keys he]; rfl
  unfold opsL opsS
  rw [List.mem_map]
  constructor
  · rintro ⟨k, hk, rfl⟩
    rw [sortK_mem] at hk
    obtain ⟨e, he, rfl⟩ := List.mem_map.1 hk
    exact ⟨e, he, (vo e he).symm⟩
  · rintro ⟨e, he, rfl⟩
    exact ⟨e.key.1, sortK_mem.2 (List.mem_map.2 ⟨e, he, rfl⟩), vo e he⟩
theorem chTxn_start (t : TxnD) (o : OpD) : (chTxn t o).start = t.start := by
  unfold chTxn
  split
  · split <;> rfl
  · rfl
theorem chErr_of {t : TxnD} {o : OpD} (h : t.over = false) : chErr t o = 0 ∨ chErr t o = 14 ∨ chErr t o = 2 := by
  unfold chErr
  rw [h, if_neg (by decide)]
  split
  · exact .inr (.inl rfl)
  · split
    · exact .inr (.inr rfl)
    · split
      · split
        · exact .inr (.inl rfl)
        · exact .inl rfl
      · exact .inr (.inl rfl)
/-- Have two changes the same key? -/
def keyB (a c : OpD) : Bool := a.key.toList == c.key.toList
theorem keyB_iff {a c : OpD} : keyB a c = true ↔ a.key = c.key := by unfold keyB; rw [beq_iff_eq]; exact ⟨toList_inj, fun h => by rw [h]⟩
def clA (won : List OpD) (a : OpD) : Bool := won.any (keyB a)
def clW (mine won : List OpD) : Bool := mine.any (clA won)
/-- What the notes tell: the keys of those that won. -/
def Told (x : List (Ent Nm Int) × Nat) (won : List OpD) : Prop := ∀ k : Nm, (lookE x.1 k).getD 0 > 7 ↔ ∃ o ∈ won, o.key = k.1
theorem told_nil : Told ([], 0) [] := fun k => by
  simp [lookE]
theorem told_note : ∀ (l : List OpD) (x : List (Ent Nm Int) × Nat) (s : Int) (won : List OpD), Told x won → s > 7 → (∀ o ∈ l, o.key.size ≤ 64) → Told (noteAll x l s) (won ++ l)
  | [], x, s, won, h, _, _ => by rw [List.append_nil]; exact h
  | o :: l, x, s, won, h, hs, hl => by
    have ho := hl o List.mem_cons_self
    have e : won ++ o :: l = (won ++ [o]) ++ l := by rw [List.append_assoc]; rfl
    unfold noteAll
    rw [dif_pos ho, e]
    refine told_note l _ (s + 1) (won ++ [o]) (fun k => ?_) (by omega) fun y hy => hl y (List.mem_cons_of_mem _ hy)
    rw [lookE_put]
    by_cases hk : k = ⟨o.key, ho⟩
    · rw [if_pos hk]
      simp only [Option.getD_some]
      exact ⟨fun _ => ⟨o, List.mem_append_right _ List.mem_cons_self, by rw [hk]⟩, fun _ => hs⟩
    · rw [if_neg hk, h k]
      constructor
      · rintro ⟨y, hy, hyk⟩; exact ⟨y, List.mem_append_left _ hy, hyk⟩
      · rintro ⟨y, hy, hyk⟩
        rcases List.mem_append.1 hy with hy | hy
        · exact ⟨y, hy, hyk⟩
        · rw [List.mem_singleton.1 hy] at hyk
          exact absurd (Subtype.ext hyk.symm) hk
theorem clash_is {D : SysD} {t : TxnD} {won : List OpD} (h : Told D.notes won) (hs : t.start = 7) (ho : t.over = false) (hok : MapOk t.ops t.oc) (hv : ∀ e ∈ t.ops, e.val.key = e.key.1) : D.clash t = clW (opsL t.ops) won := by
  unfold SysD.clash clW clA
  rw [ho, hs, Bool.not_false, Bool.true_and, Bool.eq_iff_iff, List.any_eq_true, List.any_eq_true]
  constructor
  · rintro ⟨e, he, hd⟩
    obtain ⟨o, ho, hk⟩ := (h e.key).1 (of_decide_eq_true hd)
    exact ⟨e.val, (opsL_mem hok).2 ⟨e, he, rfl⟩, List.any_eq_true.2 ⟨o, ho, keyB_iff.2 (by rw [hv e he, hk])⟩⟩
  · rintro ⟨a, ha, hb⟩
    obtain ⟨e, he, rfl⟩ := (opsL_mem hok).1 ha
    obtain ⟨o, ho, hk⟩ := List.any_eq_true.1 hb
    exact ⟨e, he, decide_eq_true ((h e.key).2 ⟨o, ho, by rw [← keyB_iff.1 hk, hv e he]⟩)⟩
theorem comErr_is {D : SysD} {t : TxnD} {seq : Int} (hs : t.start = 7) (ho : t.over = false) (hq : 7 < seq ∧ seq ≤ 1000000) (hl : t.ops.length ≤ 200) : D.comErr t seq = if D.clash t then 11 else 0 := by
  have hL : (opsOf t).length = t.ops.length := by unfold opsOf; rw [ho]; exact opsL_len _
  unfold SysD.comErr
  rw [if_neg (by rw [hs, hL]; omega), ho, if_neg (by decide)]
theorem comErr_over {D : SysD} {t : TxnD} {seq : Int} (hs : t.start = 7) (ho : t.over = true) (hq : 7 < seq ∧ seq ≤ 1000000) : D.comErr t seq = 12 := by
  have hL : (opsOf t).length = 0 := by unfold opsOf; rw [ho]; rfl
  unfold SysD.comErr
  rw [if_neg (by rw [hs, hL]; omega), ho, if_pos rfl]
theorem com_over {D : SysD} {i : Nat} {t : TxnD} {seq : Int} (h : D.comErr t seq = 12) : D.com i t seq = D := by
  unfold SysD.com; rw [h, if_neg (by decide), if_neg (by decide)]
theorem openN_all {D : SysD} (h : ∀ t ∈ D.txns, t.over = false) : openN D = D.txns.length := by
  unfold openN
  rw [List.filter_eq_self.2 fun t ht => by rw [h t ht]; rfl]
theorem any_next {α : Type} {p : α → Bool} {l : List α} {k : Nat} {x : α} (h : l[k]? = some x) : (l.take (k + 1)).any p = ((l.take k).any p || p x) := by
  rw [List.take_add_one, h, List.any_append]
  show (_ || (p x || false)) = _
  rw [Bool.or_false]
end Go.Proofs.Ytnaiaacgcjikiaa
