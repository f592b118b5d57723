/- Opening slices of things that a row reads: with the elements, and how large they may be. No type in sight. -/
import Derived.Test.YtmgpfckkafcllaaHvTab
import Derived.Test.YtmgpfckkafcllaaHvRow
import Derived.Deep.Slices
import Derived.Deep.Strs
import Derived.Lib.SmallJoins
import Derived.ProofKit
import Derived.SizedLaws
set_option linter.unusedVariables false
namespace Go.Proofs.Ytmgpfckkafcllaa
open Go Go.RowKit Go.ChangeShapes Go.WideShapes
theorem list2 {α : Type} {l : List α} (h : l.length = 2) : ∃ a b, l = [a, b] := by
  match l, h with
  | [a, b], _ => exact ⟨a, b, rfl⟩
theorem list3 {α : Type} {l : List α} (h : l.length = 3) : ∃ a b c, l = [a, b, c] := by
  match l, h with
  | [a, b, c], _ => exact ⟨a, b, c, rfl⟩
theorem list4 {α : Type} {l : List α} (h : l.length = 4) : ∃ a b c d, l = [a, b, c, d] := by
  match l, h with
  | [a, b, c, d], _ => exact ⟨a, b, c, d, rfl⟩
theorem list5 {α : Type} {l : List α} (h : l.length = 5) : ∃ a b c d e, l = [a, b, c, d, e] := by
  match l, h with
  | [a, b, c, d, e], _ => exact ⟨a, b, c, d, e, rfl⟩
theorem list6 {α : Type} {l : List α} (h : l.length = 6) : ∃ a b c d e f, l = [a, b, c, d, e, f] := by
  match l, h with
  | [a, b, c, d, e, f], _ => exact ⟨a, b, c, d, e, f, rfl⟩
theorem list7 {α : Type} {l : List α} (h : l.length = 7) : ∃ a b c d e f g, l = [a, b, c, d, e, f, g] := by
  match l, h with
  | [a, b, c, d, e, f, g], _ => exact ⟨a, b, c, d, e, f, g, rfl⟩
theorem list8 {α : Type} {l : List α} (h : l.length = 8) : ∃ a b c d e f g h, l = [a, b, c, d, e, f, g, h] := by
  match l, h with
  | [a, b, c, d, e, f, g, h], _ => exact ⟨a, b, c, d, e, f, g, h, rfl⟩

/-- No part is larger than what can be reached. -/
def SizedD {H : Type} (P : Program) (t : TypeId) (d : DataW H) : Prop := ∀ n ∈ d.weights P t, n ≤ reachBytes
section
variable {H : Type} {P : Program}
theorem weights_mem_all {e : TypeId} : ∀ {l : List (DataW H)} {d : DataW H}, d ∈ l → ∀ n ∈ d.weights P e, n ∈ DataW.weightsAll P e l
  | d0 :: l, d, hd, n, hn => by
    unfold DataW.weightsAll
    rw [List.mem_append]
    rcases List.mem_cons.1 hd with rfl | hd
    · exact .inl hn
    · exact .inr (weights_mem_all hd n hn)
  | [], _, hd, _, _ => absurd hd List.not_mem_nil
theorem SizedD.elem {t e : TypeId} {elems spare : List (DataW H)} (h : SizedD P t (.slice elems spare)) (hu : P.underlying t = some (.slice e)) {d : DataW H} (hd : d ∈ elems) : SizedD P e d := fun n hn =>
  h n (by
    simp only [DataW.weights, hu]
    exact List.mem_cons_of_mem _ (List.mem_append_left _ (weights_mem_all hd n hn)))
theorem SizedD.len {t e : TypeId} {elems spare : List (DataW H)} (h : SizedD P t (.slice elems spare)) (hu : P.underlying t = some (.slice e)) : (elems.length + spare.length) * P.bytesOf e ≤ reachBytes :=
  h _ (by simp only [DataW.weights, hu]; exact List.mem_cons_self)
theorem SizedD.field {t : TypeId} {fs : Array Field} {parts : List (DataW H)} (h : SizedD P t (.agg parts)) (hu : P.underlying t = some (.struct fs)) {j : Nat} {f : Field} {d : DataW H} (hf : fs[j]? = some f) (hd : parts[j]? = some d) : SizedD P f.type d := fun n hn =>
  h n (by
    simp only [DataW.weights, hu]
    exact DataW.weights_mem_each (by rw [List.getElem?_map]; simp [hf]) hd n hn)
theorem SizedD.of {ts : List TypeId} {ds : List (DataW H)} (h : (DataW.weightsEach P ts ds).all (· ≤ reachBytes) = true) {j : Nat} {t : TypeId} {d : DataW H} (ht : ts[j]? = some t) (hd : ds[j]? = some d) : SizedD P t d := fun n hn =>
  of_decide_eq_true (List.all_eq_true.1 h n (DataW.weights_mem_each ht hd n hn))
end
section
variable {H : Type} {enc : TypeId × Value → H} {P : Program} {w : World} {base : Nat} {spare : Nat → Bool} {held : Bool}
theorem open_elems {α : Type} [Inhabited α] {sz : Nat} {f : α → List Value} {good : α → Prop} (hf : ∀ a, (f a).length = sz) {t e : TypeId} {fuel : Nat} {v : Value} {x : DataW H × List MemPlace}
    (ht : P.underlying t = some (.slice e)) (hC : P.cellsOf e = sz) (hread : ∀ (n : Nat) (cs : List Value) (y : DataW H × List MemPlace), DataW.trod enc P w base spare held n e cs = some y → ∃ a, cs = f a ∧ good a)
    (h : DataW.trod enc P w base spare held fuel t [v] = some x) : ∃ l : List α, RdT w sz f v l ∧ ∀ a ∈ l, good a := by
  rcases Go.Deep.open_slice ht h with ⟨h0, _⟩ | ⟨a, len, cap, m, n, D, Pl, hcs, _, hl, hm, hmm, _, hi⟩
  · simp only [List.cons.injEq, and_true] at h0
    subst h0
    exact ⟨[], ⟨none, 0, rfl, Nat.le_refl _, Nat.zero_le _, by simp, fun h => absurd h (by simp)⟩, fun _ h => by simp at h⟩
  · simp only [List.cons.injEq, and_true] at hcs
    subst hcs
    have hlm : len ≤ m := by rw [hmm]; split <;> omega
    obtain ⟨g, hg⟩ := Go.Deep.choose_lt (n := len) (p := fun i a' => good a' ∧ ∀ j u, (f a')[j]? = some u → w.cell? (a.add (i * sz + j)) = some u) (fun i hil => by
      obtain ⟨cs', hc, ht'⟩ := hi i (by omega)
      obtain ⟨b, rfl, hb⟩ := hread n cs' _ ht'
      rw [hC] at hc
      obtain ⟨_, _, hat⟩ := World.cells?_some hc
      refine ⟨b, hb, fun j u hu => ?_⟩
      have hj : j < sz := by
        have := (List.getElem?_eq_some_iff.1 hu).1
        rwa [hf] at this
      have := hat j hj
      rw [add_add'] at this
      rw [this, hu])
    refine ⟨(List.range len).map g, ⟨some a, cap, by simp, by simpa using hl, hm, ?_, fun _ => ⟨a, rfl, fun j u hu => ?_⟩⟩, ?_⟩
    · rw [flatMap_len hf]
    · have hjl : j < ((List.range len).map g).length * sz := by
        have := (List.getElem?_eq_some_iff.1 hu).1
        rwa [flatMap_len hf] at this
      rcases Nat.eq_zero_or_pos sz with h0 | h0
      · subst h0; simp at hjl
      · have hq : j / sz < ((List.range len).map g).length := (Nat.div_lt_iff_lt_mul h0).2 hjl
        have hr : j % sz < sz := Nat.mod_lt _ h0
        have e := flatMap_get hf ((List.range len).map g) (j / sz) (j % sz) hq hr
        have ej : j / sz * sz + j % sz = j := by rw [Nat.mul_comm]; exact Nat.div_add_mod j sz
        rw [ej, hu] at e
        have := (hg (j / sz) (by simpa using hq)).2 (j % sz) u (by rw [e]; simp)
        rwa [ej] at this
    · intro x hx
      obtain ⟨i, hi', rfl⟩ := List.mem_map.1 hx
      exact (hg i (List.mem_range.1 hi')).1
theorem open_elemsS {α : Type} [Inhabited α] {sz : Nat} {f : α → List Value} {good : α → Prop} (hf : ∀ a, (f a).length = sz) {t e : TypeId} {fuel : Nat} {v : Value} {x : DataW H × List MemPlace}
    (ht : P.underlying t = some (.slice e)) (hC : P.cellsOf e = sz) (hread : ∀ (n : Nat) (cs : List Value) (y : DataW H × List MemPlace), DataW.trod enc P w base spare held n e cs = some y → SizedD P e y.1 → ∃ a, cs = f a ∧ good a)
    (hz : SizedD P t x.1) (h : DataW.trod enc P w base spare held fuel t [v] = some x) : ∃ l : List α, RdT w sz f v l ∧ (∀ a ∈ l, good a) ∧ l.length * P.bytesOf e ≤ reachBytes := by
  rcases Go.Deep.open_slice ht h with ⟨h0, _⟩ | ⟨a, len, cap, m, n, D, Pl, hcs, _, hl, hm, hmm, hx, hi⟩
  · simp only [List.cons.injEq, and_true] at h0
    subst h0
    exact ⟨[], ⟨none, 0, rfl, Nat.le_refl _, Nat.zero_le _, by simp, fun h => absurd h (by simp)⟩, fun _ h => by simp at h, by simp⟩
  · simp only [List.cons.injEq, and_true] at hcs
    subst hcs
    have hx1 : x.1 = .slice ((List.range len).map D) ((List.range (m - len)).map fun j => D (len + j)) := by rw [hx]
    rw [hx1] at hz
    have hlm : len ≤ m := by rw [hmm]; split <;> omega
    obtain ⟨g, hg⟩ := Go.Deep.choose_lt (n := len) (p := fun i a' => good a' ∧ ∀ j u, (f a')[j]? = some u → w.cell? (a.add (i * sz + j)) = some u) (fun i hil => by
      obtain ⟨cs', hc, ht'⟩ := hi i (by omega)
      obtain ⟨b, rfl, hb⟩ := hread n cs' _ ht' (hz.elem ht (List.mem_map.2 ⟨i, List.mem_range.2 hil, rfl⟩))
      rw [hC] at hc
      obtain ⟨_, _, hat⟩ := World.cells?_some hc
      refine ⟨b, hb, fun j u hu => ?_⟩
      have hj : j < sz := by
        have := (List.getElem?_eq_some_iff.1 hu).1
        rwa [hf] at this
      have := hat j hj
      rw [add_add'] at this
      rw [this, hu])
    refine ⟨(List.range len).map g, ⟨some a, cap, by simp, by simpa using hl, hm, ?_, fun _ => ⟨a, rfl, fun j u hu => ?_⟩⟩, ?_, ?_⟩
    · rw [flatMap_len hf]
    · have hjl : j < ((List.range len).map g).length * sz := by
        have := (List.getElem?_eq_some_iff.1 hu).1
        rwa [flatMap_len hf] at this
      rcases Nat.eq_zero_or_pos sz with h0 | h0
      · subst h0; simp at hjl
      · have hq : j / sz < ((List.range len).map g).length := (Nat.div_lt_iff_lt_mul h0).2 hjl
        have hr : j % sz < sz := Nat.mod_lt _ h0
        have e := flatMap_get hf ((List.range len).map g) (j / sz) (j % sz) hq hr
        have ej : j / sz * sz + j % sz = j := by rw [Nat.mul_comm]; exact Nat.div_add_mod j sz
        rw [ej, hu] at e
        have := (hg (j / sz) (by simpa using hq)).2 (j % sz) u (by rw [e]; simp)
        rwa [ej] at this
    · intro x hx
      obtain ⟨i, hi', rfl⟩ := List.mem_map.1 hx
      exact (hg i (List.mem_range.1 hi')).1
    · have := hz.len ht
      rw [List.length_map, List.length_range] at this ⊢
      exact Nat.le_trans (Nat.mul_le_mul_right _ (Nat.le_add_right _ _)) this
end
end Go.Proofs.Ytmgpfckkafcllaa
