/- Chapter 9's Last: of each key the last change; the plain law, no program in sight. -/
import Derived.Test.YtmgpfckkafcllaaBatch
import Derived.Test.YtmgpfckkafcllaaStr
import Derived.Test.YtmgpfckkafcllaaHvMap
set_option linter.unusedVariables false
namespace Go.Proofs.Ytmgpfckkafcllaa
open Go Go.RowKit Hv
abbrev OpE := Ent ByteArray OpD
/-- The last change of a key. -/
def lastOf (ops : List OpD) (k : ByteArray) : Option OpD := ops.reverse.find? fun o => decide (o.key = k)
theorem lastOf_cons (o : OpD) (ops : List OpD) (k : ByteArray) : lastOf (o :: ops) k = (lastOf ops k).or (if o.key = k then some o else none) := by
  unfold lastOf
  rw [List.reverse_cons, List.find?_append]
  congr 1
  by_cases h : o.key = k
  · rw [if_pos h, List.find?_cons, decide_eq_true h]
  · rw [if_neg h, List.find?_cons, decide_eq_false h]; rfl
theorem lastOf_key {ops : List OpD} {k : ByteArray} {o : OpD} (h : lastOf ops k = some o) : o.key = k ∧ o ∈ ops := by
  unfold lastOf at h
  exact ⟨of_decide_eq_true (List.find?_some (p := fun o : OpD => decide (o.key = k)) h), List.mem_reverse.1 (List.mem_of_find?_eq_some h)⟩
def SortedK (l : List OpD) : Prop := l.Pairwise fun a b => slt a.key b.key = true
/-! ### the document's -/
def leK (k : ByteArray) (o : OpD) : Bool := sle o.key k
def insO (o : OpD) (out : List OpD) : List OpD := if ((out.takeWhile (leK o.key)).any fun x => decide (x.key = o.key)) = true then out else out.takeWhile (leK o.key) ++ o :: out.dropWhile (leK o.key)
def docLast (ops : List OpD) : List OpD := ops.foldr insO []
theorem sle_slt {a b : ByteArray} (h : sle a b = false) : slt b a = true := by rw [sle_not] at h; simpa using h
theorem slt_sle {a b : ByteArray} (h : slt a b = true) : sle a b = true := by rw [sle_not, slt_asym h]; rfl
theorem sle_ne {a b : ByteArray} (h : sle a b = true) (hn : a ≠ b) : slt a b = true := by
  rcases slt_tri a b with h1 | h1 | h1
  · exact h1
  · exact absurd (toList_inj h1) hn
  · rw [sle_not, h1] at h; cases h
theorem slt_of_lt_le {a b c : ByteArray} (h : slt a b = true) (h' : sle b c = true) : slt a c = true := by
  rcases slt_tri b c with h1 | h1 | h1
  · exact slt_trans h h1
  · rw [← toList_inj h1]; exact h
  · rw [sle_not, h1] at h'; cases h'
theorem drop_gt {k : ByteArray} : ∀ {l : List OpD}, SortedK l → ∀ x ∈ l.dropWhile (leK k), slt k x.key = true
  | [], _, x, hx => absurd hx List.not_mem_nil
  | a :: l, h, x, hx => by
    have hc := List.pairwise_cons.1 h
    cases ha : leK k a with
    | true => rw [List.dropWhile_cons, ha] at hx; exact drop_gt hc.2 x hx
    | false =>
      rw [List.dropWhile_cons, ha] at hx
      have hka : slt k a.key = true := sle_slt ha
      rcases List.mem_cons.1 hx with rfl | hx
      · exact hka
      · exact slt_trans hka (hc.1 x hx)
theorem take_le {k : ByteArray} {l : List OpD} {x : OpD} (hx : x ∈ l.takeWhile (leK k)) : sle x.key k = true := by
  have := List.all_takeWhile (p := leK k) (l := l)
  exact List.all_eq_true.1 this x hx
theorem ins_spec {o : OpD} {out : List OpD} (h : SortedK out) : SortedK (insO o out) ∧ ∀ x, x ∈ insO o out ↔ (x ∈ out ∨ (x = o ∧ ∀ y ∈ out, y.key ≠ o.key)) := by
  have happ : out.takeWhile (leK o.key) ++ out.dropWhile (leK o.key) = out := List.takeWhile_append_dropWhile
  have hno : ∀ y ∈ out.dropWhile (leK o.key), y.key ≠ o.key := fun y hy e => by
    have := drop_gt h y hy
    rw [e, slt_irrefl] at this; cases this
  unfold insO
  by_cases hc : ((out.takeWhile (leK o.key)).any fun x => decide (x.key = o.key)) = true
  · rw [if_pos hc]
    obtain ⟨y, hy, hye⟩ := List.any_eq_true.1 hc
    have hy' : y ∈ out := by rw [← happ]; exact List.mem_append_left _ hy
    refine ⟨h, fun x => ⟨.inl, fun hx => ?_⟩⟩
    rcases hx with hx | ⟨_, hx⟩
    · exact hx
    · exact absurd (of_decide_eq_true hye) (hx y hy')
  · rw [if_neg hc]
    have hlt : ∀ y ∈ out.takeWhile (leK o.key), slt y.key o.key = true := fun y hy => sle_ne (take_le hy) fun e => hc (List.any_eq_true.2 ⟨y, hy, decide_eq_true e⟩)
    have hall : ∀ y ∈ out, y.key ≠ o.key := fun y hy => by
      rw [← happ] at hy
      rcases List.mem_append.1 hy with hy | hy
      · intro e; have := hlt y hy; rw [e, slt_irrefl] at this; cases this
      · exact hno y hy
    have hs : SortedK (out.takeWhile (leK o.key) ++ out.dropWhile (leK o.key)) := by rw [happ]; exact h
    have hp := List.pairwise_append.1 hs
    refine ⟨List.pairwise_append.2 ⟨hp.1, List.pairwise_cons.2 ⟨fun y hy => drop_gt h y hy, hp.2.1⟩, fun a ha b hb => ?_⟩, fun x => ?_⟩
    · rcases List.mem_cons.1 hb with rfl | hb
      · exact hlt a ha
      · exact slt_trans (hlt a ha) (drop_gt h b hb)
    · rw [List.mem_append, List.mem_cons]
      conv => rhs; rw [← happ, List.mem_append]
      constructor
      · rintro (hx | rfl | hx)
        · exact .inl (.inl hx)
        · exact .inr ⟨rfl, by rw [happ]; exact hall⟩
        · exact .inl (.inr hx)
      · rintro ((hx | hx) | ⟨rfl, _⟩)
        · exact .inl hx
        · exact .inr (.inr hx)
        · exact .inr (.inl rfl)
theorem docLast_spec : ∀ (ops : List OpD), SortedK (docLast ops) ∧ ∀ x, x ∈ docLast ops ↔ lastOf ops x.key = some x
  | [] => ⟨List.Pairwise.nil, fun x => ⟨fun h => absurd h List.not_mem_nil, fun h => by cases h⟩⟩
  | o :: ops => by
    obtain ⟨ih1, ih2⟩ := docLast_spec ops
    have hs := ins_spec (o := o) ih1
    refine ⟨hs.1, fun x => ?_⟩
    show x ∈ insO o (docLast ops) ↔ _
    rw [hs.2 x, lastOf_cons, ih2 x]
    constructor
    · rintro (h | ⟨rfl, h⟩)
      · rw [h]; rfl
      · cases hl : lastOf ops x.key with
        | none => rw [if_pos rfl]; rfl
        | some y =>
          have hk := lastOf_key hl
          exact absurd hk.1 (h y ((ih2 y).2 (by rw [hk.1]; exact hl)))
    · intro h
      cases hl : lastOf ops x.key with
      | some y => rw [hl] at h; exact .inl h
      | none =>
        rw [hl] at h
        have h : (if o.key = x.key then some o else none) = some x := h
        by_cases hk : o.key = x.key
        · rw [if_pos hk] at h
          injection h with h
          refine .inr ⟨h.symm, fun y hy e => ?_⟩
          have h1 := (ih2 y).1 hy
          rw [e, hk, hl] at h1; cases h1
        · rw [if_neg hk] at h; cases h
/-- Lists that rise, of the same changes, are the same. -/
theorem sorted_ext : ∀ {a b : List OpD}, SortedK a → SortedK b → (∀ x, x ∈ a ↔ x ∈ b) → a = b
  | [], [], _, _, _ => rfl
  | [], b :: ys, _, _, h => absurd ((h b).2 List.mem_cons_self) List.not_mem_nil
  | a :: xs, [], _, _, h => absurd ((h a).1 List.mem_cons_self) List.not_mem_nil
  | a :: xs, b :: ys, ha, hb, h => by
    have ha' := List.pairwise_cons.1 ha
    have hb' := List.pairwise_cons.1 hb
    have hab : a = b := by
      rcases List.mem_cons.1 ((h a).1 List.mem_cons_self) with e | e
      · exact e
      · rcases List.mem_cons.1 ((h b).2 List.mem_cons_self) with e' | e'
        · exact e'.symm
        · have h1 := ha'.1 b e'
          have h2 := hb'.1 a e
          rw [slt_asym h1] at h2; cases h2
    subst hab
    congr 1
    refine sorted_ext ha'.2 hb'.2 fun x => ⟨fun hx => ?_, fun hx => ?_⟩
    · rcases List.mem_cons.1 ((h x).1 (List.mem_cons_of_mem _ hx)) with e | e
      · subst e; have := ha'.1 x hx; rw [slt_irrefl] at this; cases this
      · exact e
    · rcases List.mem_cons.1 ((h x).2 (List.mem_cons_of_mem _ hx)) with e | e
      · subst e; have := hb'.1 x hx; rw [slt_irrefl] at this; cases this
      · exact e
theorem docLast_ext {a b : List OpD} (h : ∀ k, lastOf a k = lastOf b k) : docLast a = docLast b :=
  sorted_ext (docLast_spec a).1 (docLast_spec b).1 fun x => by rw [(docLast_spec a).2, (docLast_spec b).2, h]
theorem lastOf_app (a b : List OpD) (k : ByteArray) : lastOf (a ++ b) k = (lastOf b k).or (lastOf a k) := by
  unfold lastOf; rw [List.reverse_append, List.find?_append]
theorem docLast_twice (a : List OpD) : docLast (a ++ a) = docLast a := docLast_ext fun k => by rw [lastOf_app]; cases lastOf a k <;> rfl
theorem lastOf_sorted {l : List OpD} (h : SortedK l) {x : OpD} (hx : x ∈ l) : lastOf l x.key = some x := by
  induction l with
  | nil => exact absurd hx List.not_mem_nil
  | cons a l ih =>
    have hc := List.pairwise_cons.1 h
    rw [lastOf_cons]
    rcases List.mem_cons.1 hx with rfl | hx
    · cases hl : lastOf l x.key with
      | none => rw [if_pos rfl]; rfl
      | some y =>
        have hk := lastOf_key hl
        have := hc.1 y hk.2
        rw [hk.1, slt_irrefl] at this; cases this
    · rw [ih hc.2 hx]; rfl
theorem lastOf_none {l : List OpD} {k : ByteArray} (h : ∀ x ∈ l, x.key ≠ k) : lastOf l k = none := by
  cases hl : lastOf l k with
  | none => rfl
  | some y => exact absurd (lastOf_key hl).1 (h y (lastOf_key hl).2)
theorem docLast_again (a : List OpD) : docLast (docLast a) = docLast a := by
  obtain ⟨h1, h2⟩ := docLast_spec a
  refine docLast_ext fun k => ?_
  cases hl : lastOf a k with
  | some y =>
    have hk := (lastOf_key hl).1
    have hy : y ∈ docLast a := (h2 y).2 (by rw [hk]; exact hl)
    rw [← hk]; exact lastOf_sorted h1 hy
  | none => exact lastOf_none fun x hx e => by have := (h2 x).1 hx; rw [e, hl] at this; cases this
theorem ins_len (o : OpD) (out : List OpD) : (insO o out).length ≤ out.length + 1 := by
  unfold insO
  split
  · exact Nat.le_succ _
  · have e : out.takeWhile (leK o.key) ++ out.dropWhile (leK o.key) = out := List.takeWhile_append_dropWhile
    have := congrArg List.length e
    rw [List.length_append] at this ⊢
    rw [List.length_cons]; omega
theorem docLast_len : ∀ (ops : List OpD), (docLast ops).length ≤ ops.length
  | [] => Nat.le_refl _
  | o :: ops => Nat.le_trans (ins_len o (docLast ops)) (Nat.succ_le_succ (docLast_len ops))
/-! ### the program's -/
/-- A map of the changes by their keys. -/
def mapL (ops : List OpD) : List OpE × Nat := ops.foldl (fun d o => putE d.1 d.2 o.key o) ([], 0)
theorem mapL_look (ops : List OpD) (d : List OpE × Nat) (k : ByteArray) : lookE (ops.foldl (fun d o => putE d.1 d.2 o.key o) d).1 k = (lastOf ops k).or (lookE d.1 k) := by
  induction ops generalizing d with
  | nil => rfl
  | cons o ops ih =>
    rw [List.foldl_cons, ih, lookE_put, lastOf_cons]
    cases lastOf ops k with
    | some y => rfl
    | none =>
      by_cases h : o.key = k
      · subst h; rw [if_pos rfl, if_pos rfl]; rfl
      · rw [if_neg (Ne.symm h), if_neg h]; rfl
theorem mapL_ok (ops : List OpD) (d : List OpE × Nat) (h : MapOk d.1 d.2) : MapOk (ops.foldl (fun d o => putE d.1 d.2 o.key o) d).1 (ops.foldl (fun d o => putE d.1 d.2 o.key o) d).2 := by
  induction ops generalizing d with
  | nil => exact h
  | cons o ops ih => exact ih _ (h.put o.key o)
theorem mapL_at (ops : List OpD) (k : ByteArray) : lookE (mapL ops).1 k = lastOf ops k := by
  unfold mapL
  rw [mapL_look]
  cases lastOf ops k <;> rfl
/-- Texts, rising. -/
def sortK (l : List ByteArray) : List ByteArray := (l.map fun s => s.data.toList).mergeSort (fun x y => decide (x ≤ y)) |>.map fun l => ⟨l.toArray⟩
theorem sortK_mem {l : List ByteArray} {s : ByteArray} : s ∈ sortK l ↔ s ∈ l := by
  unfold sortK
  rw [List.mem_map]
  constructor
  · rintro ⟨x, hx, rfl⟩
    obtain ⟨y, hy, rfl⟩ := List.mem_map.1 (List.mem_mergeSort.1 hx)
    exact hy
  · intro h
    exact ⟨s.data.toList, List.mem_mergeSort.2 (List.mem_map.2 ⟨s, h, rfl⟩), rfl⟩
theorem sortK_len (l : List ByteArray) : (sortK l).length = l.length := by
  unfold sortK; rw [List.length_map, List.length_mergeSort, List.length_map]
theorem sortK_rise {l : List ByteArray} (h : l.Nodup) : (sortK l).Pairwise fun a b => slt a b = true := by
  unfold sortK
  refine List.pairwise_map.2 ?_
  have hs := List.pairwise_mergeSort (le := fun x y : List UInt8 => decide (x ≤ y)) (fun a b c h1 h2 => decide_eq_true (List.le_trans (of_decide_eq_true h1) (of_decide_eq_true h2))) (fun a b => by
    rcases List.le_total a b with h | h
    · rw [decide_eq_true h]; rfl
    · rw [decide_eq_true h, Bool.or_true]) (l.map fun s => s.data.toList)
  have hn : ((l.map fun s => s.data.toList).mergeSort fun x y => decide (x ≤ y)).Nodup := by
    refine (List.mergeSort_perm _ _).nodup_iff.2 ?_
    exact List.pairwise_map.2 (h.imp fun hne e => hne (by cases ‹ByteArray›; cases ‹ByteArray›; congr 1; exact Array.toList_inj.1 e))
  refine (hs.and hn).imp fun {a b} h => ?_
  rw [slt_iff, Lib.toList_data, Lib.toList_data]
  show a < b
  have h1 : a ≤ b := of_decide_eq_true h.1
  by_cases h2 : a < b
  · exact h2
  · exact absurd (List.le_antisymm h1 (List.not_lt.1 h2)) h.2
def lastL (ops : List OpD) : List OpD := (sortK ((mapL ops).1.map (·.key))).filterMap fun k => lookE (mapL ops).1 k
theorem last_key {ops : List OpD} {k : ByteArray} (h : k ∈ (mapL ops).1.map (·.key)) : ∃ o, lookE (mapL ops).1 k = some o ∧ o.key = k := by
  obtain ⟨e, he, rfl⟩ := List.mem_map.1 h
  cases hl : lookE (mapL ops).1 e.key with
  | none => exact absurd rfl (lookE_none.1 hl e he)
  | some o => exact ⟨o, rfl, (lastOf_key ((mapL_at ops _).symm.trans hl)).1⟩
theorem last_eq (ops : List OpD) : lastL ops = docLast ops := by
  obtain ⟨h1, h2⟩ := docLast_spec ops
  have hok : MapOk (mapL ops).1 (mapL ops).2 := mapL_ok ops _ MapOk.nil
  refine sorted_ext ?_ h1 fun x => ?_
  · refine List.pairwise_filterMap.2 ((sortK_rise hok.keys).imp fun {a b} h x hx y hy => ?_)
    rw [mapL_at] at hx hy
    show slt x.key y.key = true
    rw [(lastOf_key hx).1, (lastOf_key hy).1]; exact h
  · rw [h2 x]
    unfold lastL
    rw [List.mem_filterMap]
    constructor
    · rintro ⟨k, _, hx⟩
      rw [mapL_at] at hx
      rw [(lastOf_key hx).1]; exact hx
    · intro h
      rw [← mapL_at] at h
      obtain ⟨e, he, hk, _⟩ := lookE_mem h
      exact ⟨x.key, sortK_mem.2 (List.mem_map.2 ⟨e, he, hk⟩), h⟩
/-- What is told behind so many keys. -/
theorem last_take (ops : List OpD) {j : Nat} {k : ByteArray} (h : (sortK ((mapL ops).1.map (·.key)))[j]? = some k) : ∃ o, lookE (mapL ops).1 k = some o ∧
    ((sortK ((mapL ops).1.map (·.key))).take (j + 1)).filterMap (fun k => lookE (mapL ops).1 k) = ((sortK ((mapL ops).1.map (·.key))).take j).filterMap (fun k => lookE (mapL ops).1 k) ++ [o] := by
  obtain ⟨o, ho, _⟩ := last_key (sortK_mem.1 (List.mem_of_getElem? h))
  refine ⟨o, ho, ?_⟩
  obtain ⟨hlt, he⟩ := List.getElem?_eq_some_iff.1 h
  rw [List.take_add_one, h, List.filterMap_append]
  show _ ++ (List.filterMap _ [k]) = _
  rw [List.filterMap_cons, ho]; rfl
end Go.Proofs.Ytmgpfckkafcllaa
