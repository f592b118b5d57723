/- Edit: Apply: what its rows are on the way. Plain. -/
import Derived.Test.YtheanmfdfoefoaaEdSwap
import Derived.Test.YtheanmfdfoefoaaEdSort
set_option linter.unusedVariables false
namespace Go.Proofs.Ytheanmfdfoefoaa
open Go Go.RowKit Hv
set_option linter.unusedSimpArgs false

def nilA : AV := .lit (.slice none 0 0)
/-- A level's row: none yet, or one that may be written in. -/
def RowIs (H : Hp) (lo hi : Nat) (c : AV) (l : List MetaD) : Prop :=
  (c = nilA ∧ l = []) ∨ ∃ id, c = .rw id 4 0 l.length ∧ H id = some (.row true 51 (l.map metaH)) ∧ lo ≤ id ∧ id < hi
def idOf : AV → Option Nat | .rw id _ _ _ => some id | _ => none
def Apart (f : Nat → AV) : Prop := ∀ i j a, i < 4 → j < 4 → idOf (f i) = some a → idOf (f j) = some a → i = j
structure Rows (H : Hp) (lo hi : Nat) (f : Nat → AV) (L : Nat → List MetaD) : Prop where
  row : ∀ j, j < 4 → RowIs H lo hi (f j) (L j)
  apart : Apart f
theorem rows_start (H : Hp) (lo hi : Nat) : Rows H lo hi (fun _ => nilA) (fun _ => []) := ⟨fun _ _ => .inl ⟨rfl, rfl⟩, fun i j a _ _ h => by cases h⟩
def setF {α : Type} (f : Nat → α) (i : Nat) (a : α) : Nat → α := fun j => if j = i then a else f j
theorem setF_same {α : Type} (f : Nat → α) (i : Nat) (a : α) : setF f i a i = a := by unfold setF; rw [if_pos rfl]
theorem setF_other {α : Type} (f : Nat → α) {i j : Nat} (a : α) (h : j ≠ i) : setF f i a j = f j := by unfold setF; rw [if_neg h]
/-- One row more: a new number for level i. -/
theorem Rows.put {H H' : Hp} {lo hi hi' nx : Nat} {f : Nat → AV} {L : Nat → List MetaD} (h : Rows H lo hi f L) {i : Nat} (hi4 : i < 4) {l : List MetaD} (hn : H' nx = some (.row true 51 (l.map metaH))) (hnx : hi ≤ nx) (hlo : lo ≤ nx) (hhi : nx < hi')
    (hold : ∀ j, lo ≤ j → j < hi → idOf (f i) ≠ some j → H' j = H j) : Rows H' lo hi' (setF f i (.rw nx 4 0 l.length)) (setF L i l) := by
  refine ⟨fun j hj => ?_, fun a b x ha hb hxa hxb => ?_⟩
  · by_cases hji : j = i
    · subst hji
      rw [setF_same, setF_same]
      exact .inr ⟨nx, rfl, hn, hlo, hhi⟩
    · rw [setF_other _ _ hji, setF_other _ _ hji]
      rcases h.row j hj with hh | ⟨id, h1, h2, h3, h4⟩
      · exact .inl hh
      · refine .inr ⟨id, h1, ?_, h3, by omega⟩
        rw [hold id h3 h4 fun e => hji (h.apart j i id hj hi4 (by rw [h1]; rfl) e)]
        exact h2
  · have key : ∀ c, c < 4 → c ≠ i → idOf (f c) ≠ some nx := fun c hc hci e => by
      rcases h.row c hc with ⟨hh, _⟩ | ⟨id, h1, _, _, h4⟩
      · rw [hh] at e; cases e
      · rw [h1] at e
        injection e with e
        omega
    by_cases hai : a = i <;> by_cases hbi : b = i
    · rw [hai, hbi]
    · subst hai
      rw [setF_same] at hxa
      rw [setF_other _ _ hbi] at hxb
      injection hxa with hxa
      subst hxa
      exact absurd hxb (key b hb hbi)
    · subst hbi
      rw [setF_same] at hxb
      rw [setF_other _ _ hai] at hxa
      injection hxb with hxb
      subst hxb
      exact absurd hxa (key a ha hai)
    · rw [setF_other _ _ hai] at hxa
      rw [setF_other _ _ hbi] at hxb
      exact h.apart a b x ha hb hxa hxb
/-- A row's things in another order. -/
theorem Rows.set {H H' : Hp} {lo hi hi' : Nat} {f : Nat → AV} {L : Nat → List MetaD} (h : Rows H lo hi f L) {i id : Nat} (hi4 : i < 4) {l : List MetaD} (hf : f i = .rw id 4 0 (L i).length) (hl : l.length = (L i).length) (hlo : lo ≤ id) (hid : id < hi) (hn : H' id = some (.row true 51 (l.map metaH))) (hle : hi ≤ hi')
    (hold : ∀ j, lo ≤ j → j < hi → j ≠ id → H' j = H j) : Rows H' lo hi' f (setF L i l) := by
  refine ⟨fun j hj => ?_, h.apart⟩
  by_cases hji : j = i
  · subst hji
    rw [setF_same]
    exact .inr ⟨id, by rw [hf, hl], hn, hlo, by omega⟩
  · rw [setF_other _ _ hji]
    rcases h.row j hj with hh | ⟨id', h1, h2, h3, h4⟩
    · exact .inl hh
    · refine .inr ⟨id', h1, ?_, h3, by omega⟩
      rw [hold id' h3 h4 fun e => hji (h.apart j i id' hj hi4 (by rw [h1]; rfl) (by rw [hf, e]; rfl))]
      exact h2
theorem Rows.mono {H H' : Hp} {lo hi hi' : Nat} {f : Nat → AV} {L : Nat → List MetaD} (h : Rows H lo hi f L) (hle : hi ≤ hi') (hold : ∀ j, lo ≤ j → j < hi → H' j = H j) : Rows H' lo hi' f L := by
  refine ⟨fun j hj => ?_, h.apart⟩
  rcases h.row j hj with hh | ⟨id', h1, h2, h3, h4⟩
  · exact .inl hh
  · exact .inr ⟨id', h1, by rw [hold id' h3 h4]; exact h2, h3, by omega⟩
/-- The map's entries of a level. -/
def lvE (es : List PlM) (j : Nat) : List MetaD := (es.filter fun x => x.key.level == (j : Int)).map (·.val)
theorem lvE_rel {es : List PlM} {s : StD} (h : Rel es s) {j : Nat} (hj : j < 4) : (lvE es j).Perm (s.lv j) := by
  have h1 : ((es.map kv).filter fun x => x.1.level == (j : Int)).Perm ((placed s).filter fun x => x.1.level == (j : Int)) := h.filter _
  have h2 : ((es.map kv).filter fun x => x.1.level == (j : Int)) = (es.filter fun x => x.key.level == (j : Int)).map kv := by rw [List.filter_map]; rfl
  have hlv : ∀ k, ((lvP k (s.lv k)).filter fun x => x.1.level == (j : Int)) = if k = j then lvP k (s.lv k) else [] := fun k => by
    by_cases hk : k = j
    · subst hk
      rw [if_pos rfl]
      exact List.filter_eq_self.2 fun x hx => by rw [(mem_lvP.1 hx).2]; simp
    · rw [if_neg hk]
      refine List.filter_eq_nil_iff.2 fun x hx => ?_
      rw [(mem_lvP.1 hx).2]
      simp; omega
  have h3 : ((placed s).filter fun x => x.1.level == (j : Int)) = lvP j (s.lv j) := by
    rw [placed_four]
    simp only [List.filter_append, hlv]
    obtain rfl | rfl | rfl | rfl : j = 0 ∨ j = 1 ∨ j = 2 ∨ j = 3 := by omega
    all_goals simp
  rw [h2, h3] at h1
  have h4 := h1.map (·.2)
  have e1 : ((es.filter fun x => x.key.level == (j : Int)).map kv).map (·.2) = lvE es j := by rw [List.map_map]; rfl
  have e2 : (lvP j (s.lv j)).map (·.2) = s.lv j := by simp [lvP, Function.comp_def]
  rw [e1, e2] at h4
  exact h4
theorem lvE_next {l l' : List PlM} {x : PlM} (h : l.Perm (x :: l')) (j : Nat) : (lvE l j).Perm ((if x.key.level = (j : Int) then [x.val] else []) ++ lvE l' j) := by
  have h1 : (l.filter fun x => x.key.level == (j : Int)).Perm ((x :: l').filter fun x => x.key.level == (j : Int)) := h.filter _
  have h2 := h1.map (·.val)
  unfold lvE
  refine h2.trans ?_
  rw [List.filter_cons]
  by_cases hx : x.key.level = (j : Int)
  · simp [hx]
  · simp [hx]
/-- How far the rows are: what they have and what is still to come are the levels' tables. -/
def Way (L : Nat → List MetaD) (left : List PlM) (s : StD) : Prop := ∀ j, j < 4 → (L j ++ lvE left j).Perm (s.lv j)
theorem way_start {es : List PlM} {s : StD} (h : Rel es s) : Way (fun _ => []) es s := fun j hj => by simpa using lvE_rel h hj
theorem way_next {L : Nat → List MetaD} {left left' : List PlM} {s : StD} {x : PlM} {i : Nat} (h : Way L left s) (hp : left.Perm (x :: left')) (hx : x.key.level = (i : Int)) : Way (setF L i (L i ++ [x.val])) left' s := fun j hj => by
  have h1 := h j hj
  have h2 := lvE_next hp j
  by_cases hji : j = i
  · subst hji
    rw [if_pos hx] at h2
    rw [setF_same, List.append_assoc]
    exact (h2.append_left (L j)).symm.trans h1
  · rw [if_neg (by rw [hx]; omega)] at h2
    rw [setF_other _ _ hji]
    exact (h2.append_left (L j)).symm.trans h1
theorem way_end {L : Nat → List MetaD} {s : StD} (h : Way L [] s) {j : Nat} (hj : j < 4) : (L j).Perm (s.lv j) := by simpa [lvE] using h j hj
theorem rows_len {L : Nat → List MetaD} {left : List PlM} {s : StD} (h : Way L left s) (hc : countS s ≤ 1000) {j : Nat} (hj : j < 4) : (L j).length ≤ 1000 := by
  have h1 := (h j hj).length_eq
  rw [List.length_append] at h1
  unfold countS at hc
  obtain rfl | rfl | rfl | rfl : j = 0 ∨ j = 1 ∨ j = 2 ∨ j = 3 := by omega
  all_goals omega
theorem way_level {L : Nat → List MetaD} {es : List PlM} {s : StD} (hr : Rel es s) {x : PlM} (hx : x ∈ es) : ∃ i : Nat, i < 4 ∧ x.key.level = (i : Int) := by
  obtain ⟨n, hn, _, hp⟩ := (hr.mem x.key x.val).1 ⟨x, hx, rfl, rfl⟩
  exact ⟨n, hn, by rw [hp]⟩
end Go.Proofs.Ytheanmfdfoefoaa
