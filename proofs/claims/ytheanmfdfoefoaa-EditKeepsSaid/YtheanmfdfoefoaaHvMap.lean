/- Maps in the walk over an abstract heap: entries with keys of one kind, looking up, putting, deleting, walking through. Plain: over any program. -/
import Derived.Test.YtheanmfdfoefoaaHvFn
set_option linter.unusedVariables false
namespace Go.Proofs.Ytheanmfdfoefoaa.Hv
open Go Go.RowKit

/-- An entry. -/
structure Ent (κ ν : Type) where
  key : κ
  val : ν
  born : Nat
set_option linter.unusedSectionVars false
set_option linter.unusedSimpArgs false
section
variable {κ ν : Type} [DecidableEq κ]
def Ent.me (kA : κ → AV) (vA : ν → AV) (x : Ent κ ν) : ME := ⟨kA x.key, vA x.val, x.born⟩
/-- Keys that are told apart. -/
def KeyOk (kA : κ → AV) : Prop := ∀ a b, keyEq (kA a) (kA b) = some (decide (a = b))
structure MapOk (es : List (Ent κ ν)) (clock : Nat) : Prop where
  keys : (es.map (·.key)).Nodup
  borns : (es.map (·.born)).Nodup
  lt : ∀ x ∈ es, x.born < clock
def findE (es : List (Ent κ ν)) (k : κ) : Option Nat := es.findIdx? fun x => decide (k = x.key)
def lookE (es : List (Ent κ ν)) (k : κ) : Option ν := (es.find? fun x => decide (k = x.key)).map (·.val)
def putE (es : List (Ent κ ν)) (clock : Nat) (k : κ) (v : ν) : List (Ent κ ν) × Nat := match findE es k with
  | some i => (es.modify i fun x => ⟨k, v, x.born⟩, clock)
  | none => (es ++ [⟨k, v, clock⟩], clock + 1)
def delE (es : List (Ent κ ν)) (k : κ) : List (Ent κ ν) := match findE es k with
  | some i => es.eraseIdx i
  | none => es
theorem find_cases (es : List (Ent κ ν)) (k : κ) : (findE es k = none ∧ lookE es k = none ∧ ∀ x ∈ es, x.key ≠ k) ∨ ∃ i x, findE es k = some i ∧ es[i]? = some x ∧ x.key = k ∧ lookE es k = some x.val ∧ ∀ y ∈ es.take i, y.key ≠ k := by
  unfold findE lookE
  induction es with
  | nil => exact .inl ⟨rfl, rfl, by simp⟩
  | cons e es ih =>
    by_cases h : k = e.key
    · refine .inr ⟨0, e, by simp [List.findIdx?_cons, h], rfl, h.symm, by simp [List.find?_cons, h], by simp⟩
    · have hd : decide (k = e.key) = false := decide_eq_false h
      rcases ih with ⟨h1, h2, h3⟩ | ⟨i, x, h1, h2, h3, h4, h5⟩
      · refine .inl ⟨by simp [List.findIdx?_cons, hd, h1], by simp [List.find?_cons, hd] at h2 ⊢; exact h2, ?_⟩
        intro x hx
        rcases List.mem_cons.1 hx with rfl | hx
        · exact fun e => h e.symm
        · exact h3 x hx
      · refine .inr ⟨i + 1, x, by simp [List.findIdx?_cons, hd, h1], by simpa using h2, h3, by simp only [List.find?_cons, hd]; exact h4, ?_⟩
        intro y hy
        rw [List.take_succ_cons] at hy
        rcases List.mem_cons.1 hy with rfl | hy
        · exact fun e => h e.symm
        · exact h5 y hy
theorem mfind_me {kA : κ → AV} (vA : ν → AV) (hk : KeyOk kA) (k : κ) : ∀ (es : List (Ent κ ν)) (i : Nat), mfind (kA k) (es.map (Ent.me kA vA)) i = some (match findE es k, lookE es k with
    | some j, some v => some (i + j, vA v)
    | _, _ => none)
  | [], i => rfl
  | e :: es, i => by
    simp only [List.map_cons, mfind, Ent.me, hk k e.key]
    by_cases h : k = e.key
    · simp [findE, lookE, List.findIdx?_cons, List.find?_cons, h]
    · have hd : decide (k = e.key) = false := decide_eq_false h
      have ih := mfind_me vA hk k es (i + 1)
      simp only [hd, ih]
      have e1 : findE (e :: es) k = (findE es k).map (· + 1) := by simp [findE, List.findIdx?_cons, hd]
      have e2 : lookE (e :: es) k = lookE es k := by simp [lookE, List.find?_cons, hd]
      rw [e1, e2]
      cases findE es k with
      | none => rfl
      | some j =>
        cases lookE es k with
        | none => rfl
        | some v => simp [Nat.add_assoc, Nat.add_comm 1 j]
theorem mfind_no {kA : κ → AV} {vA : ν → AV} (hk : KeyOk kA) {k : κ} {es : List (Ent κ ν)} (h : lookE es k = none) : mfind (kA k) (es.map (Ent.me kA vA)) 0 = some none := by
  rw [mfind_me vA hk, h]
  cases findE es k <;> rfl
theorem mfind_yes {kA : κ → AV} {vA : ν → AV} (hk : KeyOk kA) {k : κ} {v : ν} {es : List (Ent κ ν)} (h : lookE es k = some v) : ∃ i x, findE es k = some i ∧ es[i]? = some x ∧ x.key = k ∧ x.val = v ∧ mfind (kA k) (es.map (Ent.me kA vA)) 0 = some (some (i, vA v)) := by
  rcases find_cases es k with ⟨_, h2, _⟩ | ⟨i, x, h1, h2, h3, h4, _⟩
  · rw [h2] at h; cases h
  · rw [h4] at h
    injection h with h
    refine ⟨i, x, h1, h2, h3, h, ?_⟩
    rw [mfind_me vA hk, h1, h4]
    simp [h]
theorem put_new {es : List (Ent κ ν)} {clock : Nat} {k : κ} (v : ν) (h : lookE es k = none) : putE es clock k v = (es ++ [⟨k, v, clock⟩], clock + 1) := by
  unfold putE
  rcases find_cases es k with ⟨h1, _, _⟩ | ⟨i, x, _, _, _, h4, _⟩
  · rw [h1]
  · rw [h4] at h; cases h
theorem put_old {es : List (Ent κ ν)} {clock i : Nat} {k : κ} {x : Ent κ ν} (v : ν) (h : findE es k = some i) (hx : es[i]? = some x) : putE es clock k v = (es.set i ⟨k, v, x.born⟩, clock) := by
  unfold putE
  rw [h]
  simp only
  congr 1
  apply List.ext_getElem?
  intro j
  rw [List.getElem?_modify]
  by_cases hj : i = j
  · subst hj
    have hlt := (List.getElem?_eq_some_iff.1 hx).1
    rw [hx, List.getElem?_set_self hlt]; simp
  · rw [List.getElem?_set_ne hj]; simp [hj]
theorem del_old {es : List (Ent κ ν)} {i : Nat} {k : κ} (h : findE es k = some i) : delE es k = es.eraseIdx i := by unfold delE; rw [h]
theorem del_no {es : List (Ent κ ν)} {k : κ} (h : lookE es k = none) : delE es k = es := by
  unfold delE
  rcases find_cases es k with ⟨h1, _, _⟩ | ⟨i, x, _, _, _, h4, _⟩
  · rw [h1]
  · rw [h4] at h; cases h
theorem lookE_mem {es : List (Ent κ ν)} {k : κ} {v : ν} (h : lookE es k = some v) : ∃ x ∈ es, x.key = k ∧ x.val = v := by
  rcases find_cases es k with ⟨_, h2, _⟩ | ⟨i, x, _, h2, h3, h4, _⟩
  · rw [h2] at h; cases h
  · rw [h4] at h; injection h with h
    exact ⟨x, List.mem_of_getElem? h2, h3, h⟩
theorem lookE_none {es : List (Ent κ ν)} {k : κ} : lookE es k = none ↔ ∀ x ∈ es, x.key ≠ k := by
  constructor
  · intro h
    rcases find_cases es k with ⟨_, _, h3⟩ | ⟨i, x, _, _, _, h4, _⟩
    · exact h3
    · rw [h4] at h; cases h
  · intro h
    rcases find_cases es k with ⟨_, h2, _⟩ | ⟨i, x, _, h2, h3, _, _⟩
    · exact h2
    · exact absurd h3 (h x (List.mem_of_getElem? h2))
theorem mem_lookE {es : List (Ent κ ν)} (hn : (es.map (·.key)).Nodup) {x : Ent κ ν} (hx : x ∈ es) : lookE es x.key = some x.val := by
  rcases find_cases es x.key with ⟨_, _, h3⟩ | ⟨i, y, _, h2, h3, h4, _⟩
  · exact absurd rfl (h3 x hx)
  · rw [h4]
    have hy := List.mem_of_getElem? h2
    obtain ⟨a, ha, rfl⟩ := List.getElem_of_mem hx
    obtain ⟨b, hb, rfl⟩ := List.getElem_of_mem hy
    have : a = b := by
      have hn' := List.pairwise_iff_getElem.1 hn
      rcases Nat.lt_trichotomy a b with h | h | h
      · have := hn' a b (by simpa using ha) (by simpa using hb) h
        simp only [List.getElem_map] at this
        exact absurd h3.symm this
      · exact h
      · have := hn' b a (by simpa using hb) (by simpa using ha) h
        simp only [List.getElem_map] at this
        exact absurd h3 this
    subst this; rfl
theorem del_filter {es : List (Ent κ ν)} (hn : (es.map (·.key)).Nodup) (k : κ) : delE es k = es.filter fun x => !decide (x.key = k) := by
  rcases find_cases es k with ⟨h1, h2, h3⟩ | ⟨i, x, h1, h2, h3, _, h5⟩
  · rw [del_no h2, List.filter_eq_self.2]
    intro x hx; simp [h3 x hx]
  · rw [del_old h1]
    obtain ⟨hlt, hx⟩ := List.getElem?_eq_some_iff.1 h2
    have hsp : es = es.take i ++ x :: es.drop (i + 1) := by
      rw [← hx, ← List.drop_eq_getElem_cons hlt, List.take_append_drop]
    have hdr : ∀ y ∈ es.drop (i + 1), y.key ≠ k := by
      intro y hy he
      rw [hsp, List.map_append, List.map_cons] at hn
      have := (List.nodup_append.1 hn).2.1
      have := (List.nodup_cons.1 this).1
      exact this (List.mem_map.2 ⟨y, hy, by rw [he, h3]⟩)
    rw [List.eraseIdx_eq_take_drop_succ]
    conv => rhs; rw [hsp]
    rw [List.filter_append, List.filter_cons]
    have e1 : (es.take i).filter (fun x => !decide (x.key = k)) = es.take i := List.filter_eq_self.2 fun y hy => by simp [h5 y hy]
    have e2 : (es.drop (i + 1)).filter (fun x => !decide (x.key = k)) = es.drop (i + 1) := List.filter_eq_self.2 fun y hy => by simp [hdr y hy]
    rw [e1, e2]
    simp [h3]
theorem MapOk.nil : MapOk ([] : List (Ent κ ν)) 0 := ⟨List.nodup_nil, List.nodup_nil, by simp⟩
theorem set_same {α : Type} {l : List α} {i : Nat} {x : α} (h : l[i]? = some x) : l.set i x = l := by
  obtain ⟨hlt, rfl⟩ := List.getElem?_eq_some_iff.1 h
  exact List.set_getElem_self hlt
theorem MapOk.put {es : List (Ent κ ν)} {clock : Nat} (h : MapOk es clock) (k : κ) (v : ν) : MapOk (putE es clock k v).1 (putE es clock k v).2 := by
  rcases find_cases es k with ⟨h1, h2, h3⟩ | ⟨i, x, h1, h2, h3, _, _⟩
  · rw [put_new v h2]
    refine ⟨?_, ?_, ?_⟩
    · rw [List.map_append]
      refine List.nodup_append.2 ⟨h.keys, by simp, ?_⟩
      intro a ha b hb
      simp only [List.map_cons, List.map_nil, List.mem_singleton] at hb
      subst hb
      obtain ⟨x, hx, rfl⟩ := List.mem_map.1 ha
      exact h3 x hx
    · rw [List.map_append]
      refine List.nodup_append.2 ⟨h.borns, by simp, ?_⟩
      intro a ha b hb
      simp only [List.map_cons, List.map_nil, List.mem_singleton] at hb
      subst hb
      obtain ⟨x, hx, rfl⟩ := List.mem_map.1 ha
      have := h.lt x hx
      omega
    · intro x hx
      rcases List.mem_append.1 hx with hx | hx
      · have := h.lt x hx; omega
      · simp only [List.mem_singleton] at hx; subst hx; simp
  · rw [put_old v h1 h2]
    have ek : (es.set i ⟨k, v, x.born⟩).map (·.key) = es.map (·.key) := by
      rw [List.map_set]
      have : (es.map (·.key))[i]? = some k := by rw [List.getElem?_map, h2, Option.map_some, h3]
      exact set_same this
    have eb : (es.set i ⟨k, v, x.born⟩).map (·.born) = es.map (·.born) := by
      rw [List.map_set]
      have : (es.map (·.born))[i]? = some x.born := by rw [List.getElem?_map, h2]; rfl
      exact set_same this
    refine ⟨by rw [ek]; exact h.keys, by rw [eb]; exact h.borns, fun y hy => ?_⟩
    rcases List.mem_or_eq_of_mem_set hy with hy | rfl
    · exact h.lt y hy
    · exact h.lt x (List.mem_of_getElem? h2)
theorem MapOk.del {es : List (Ent κ ν)} {clock : Nat} (h : MapOk es clock) (k : κ) : MapOk (delE es k) clock := by
  rw [del_filter h.keys]
  exact ⟨h.keys.sublist ((List.filter_sublist).map _), h.borns.sublist ((List.filter_sublist).map _), fun x hx => h.lt x (List.mem_filter.1 hx).1⟩
theorem lookE_put {es : List (Ent κ ν)} {clock : Nat} (k j : κ) (v : ν) : lookE (putE es clock k v).1 j = if j = k then some v else lookE es j := by
  rcases find_cases es k with ⟨h1, h2, h3⟩ | ⟨i, x, h1, h2, h3, _, h5⟩
  · rw [put_new v h2]
    unfold lookE
    rw [List.find?_append]
    by_cases hj : j = k
    · subst hj
      have : es.find? (fun x => decide (j = x.key)) = none := List.find?_eq_none.2 fun x hx => by simpa using fun e => h3 x hx e.symm
      rw [this]; simp
    · rw [if_neg hj]
      cases es.find? (fun x => decide (j = x.key)) with
      | some y => rfl
      | none => simp [hj]
  · rw [put_old v h1 h2]
    obtain ⟨hlt, hx⟩ := List.getElem?_eq_some_iff.1 h2
    have hsp : es = es.take i ++ x :: es.drop (i + 1) := by
      rw [← hx, ← List.drop_eq_getElem_cons hlt, List.take_append_drop]
    have hst : es.set i ⟨k, v, x.born⟩ = es.take i ++ ⟨k, v, x.born⟩ :: es.drop (i + 1) := List.set_eq_take_append_cons_drop .. |>.trans (by rw [if_pos hlt])
    unfold lookE
    rw [hst]
    conv => rhs; rw [hsp]
    rw [List.find?_append, List.find?_append, List.find?_cons, List.find?_cons]
    by_cases hj : j = k
    · subst hj
      have : (es.take i).find? (fun x => decide (j = x.key)) = none := List.find?_eq_none.2 fun y hy => by simpa using fun e => h5 y hy e.symm
      rw [this]; simp
    · rw [if_neg hj]
      have : decide (j = x.key) = false := decide_eq_false (by rw [h3]; exact hj)
      simp [this, hj]
theorem lookE_del {es : List (Ent κ ν)} (hn : (es.map (·.key)).Nodup) (k j : κ) : lookE (delE es k) j = if j = k then none else lookE es j := by
  rw [del_filter hn]
  by_cases hj : j = k
  · subst hj
    rw [if_pos rfl, lookE_none]
    intro x hx
    have := (List.mem_filter.1 hx).2
    simpa using this
  · rw [if_neg hj]
    unfold lookE
    rw [List.find?_filter]
    congr 2
    funext x
    by_cases h : j = x.key
    · subst h; simp [hj]
    · simp [h]
theorem len_put {es : List (Ent κ ν)} {clock : Nat} (k : κ) (v : ν) : (putE es clock k v).1.length = if (lookE es k).isSome then es.length else es.length + 1 := by
  rcases find_cases es k with ⟨h1, h2, h3⟩ | ⟨i, x, h1, h2, h3, h4, h5⟩
  · rw [put_new v h2, h2]; simp
  · rw [put_old v h1 h2, h4]; simp
theorem len_del {es : List (Ent κ ν)} (k : κ) : (delE es k).length = if (lookE es k).isSome then es.length - 1 else es.length := by
  rcases find_cases es k with ⟨h1, h2, h3⟩ | ⟨i, x, h1, h2, h3, h4, h5⟩
  · rw [del_no h2, h2]; simp
  · rw [del_old h1, h4, List.length_eraseIdx]
    have := (List.getElem?_eq_some_iff.1 h2).1
    simp [this]
/-! ### walking through -/
def leftL (es : List (Ent κ ν)) (seen : List Nat) : List (Ent κ ν) := es.filter fun x => !seen.contains x.born
theorem leftE_me (kA : κ → AV) (vA : ν → AV) (es : List (Ent κ ν)) (seen : List Nat) : leftE (es.map (Ent.me kA vA)) seen = (leftL es seen).map (Ent.me kA vA) := by
  unfold leftE leftL
  rw [List.filter_map]
  rfl
theorem leftL_nil (es : List (Ent κ ν)) : leftL es [] = es := List.filter_eq_self.2 fun x _ => by simp
theorem leftL_next {es : List (Ent κ ν)} (hn : (es.map (·.born)).Nodup) {seen : List Nat} {x : Ent κ ν} (hx : x ∈ leftL es seen) : (leftL es seen).Perm (x :: leftL es (seen ++ [x.born])) := by
  have e : leftL es (seen ++ [x.born]) = (leftL es seen).filter fun y => !decide (y.born = x.born) := by
    unfold leftL
    rw [List.filter_filter]
    congr 1
    funext y
    by_cases h : y.born = x.born <;> simp [h]
  rw [e]
  have hn' : ((leftL es seen).map (·.born)).Nodup := hn.sublist ((List.filter_sublist).map _)
  generalize leftL es seen = l at hx hn'
  induction l with
  | nil => cases hx
  | cons y l ih =>
    rw [List.map_cons, List.nodup_cons] at hn'
    rcases List.mem_cons.1 hx with rfl | hx
    · rw [List.filter_cons]
      have : l.filter (fun y => !decide (y.born = x.born)) = l := List.filter_eq_self.2 fun z hz => by
        have : z.born ≠ x.born := fun e => hn'.1 (List.mem_map.2 ⟨z, hz, e⟩)
        simp [this]
      simp [this]
    · have hne : y.born ≠ x.born := fun e => hn'.1 (List.mem_map.2 ⟨x, hx, e.symm⟩)
      rw [List.filter_cons]
      simp only [hne, decide_false, Bool.not_false, if_true]
      exact ((ih hx hn'.2).cons y).trans (List.Perm.swap x y _)
theorem borns_me {kA : κ → AV} {vA : ν → AV} {es : List (Ent κ ν)} {clock : Nat} (h : MapOk es clock) : ∀ e ∈ es.map (Ent.me kA vA), e.born < clock := by
  intro e he
  obtain ⟨x, hx, rfl⟩ := List.mem_map.1 he
  exact h.lt x hx
end
/-! ### keys -/
theorem keyOk_int : KeyOk fun n : Int => AV.lit (.int .i64 n) := fun a b => by
  simp only [keyEq, keyCell, if_true]
  congr 1
theorem keyOk_str : KeyOk fun s : ByteArray => AV.lit (.string s) := fun a b => by
  simp only [keyEq, keyCell]
  congr 1
  rw [Bool.eq_iff_iff, decide_eq_true_eq]
  exact Go.MapKept.bytes_beq a b
end Go.Proofs.Ytheanmfdfoefoaa.Hv
