/- The walk over an abstract heap, texts Hv to HvVal4 in one. -/
import Derived.Test.YtheanmfdfoefoaaKit
import Derived.Test.YtheanmfdfoefoaaHvFlat
import Derived.MapKept
import Derived.Great.BuildSlice
set_option linter.unusedVariables false
set_option linter.unusedSimpArgs false
set_option linter.unusedVariables false
set_option linter.unusedSimpArgs false
namespace Go.Proofs.Ytheanmfdfoefoaa.Hv
open Go Go.RowKit

/-- What a slot is worth: a value as it is; a struct; several results; a slice to read for ever (its things, each a list of cells); an address to read from for ever; a piece of a row (the row's number, a thing's cells, from which thing, how many); an address in a variable (its number); in a thing of a row; a map's number; a function with what it captured; nothing known; a row's beginning whose room is known; the address of a row's next place. -/
inductive AV where
  | lit (v : Value)
  | agg (cs : List AV)
  | tup (vs : List AV)
  | sl (items : List (List AV))
  | ref (cs : List AV)
  | rw (id sz ko len : Nat)
  | ptr (id off : Nat)
  | el (id sz k off : Nat)
  | mp (id : Nat)
  | ra (id off len : Nat)
  | fn (f : FuncId) (caps : List AV)
  | dead
  | rc (id sz len c : Nat)
  | ec (id sz k : Nat)
  deriving Inhabited
/-- An entry of a map. -/
structure ME where
  key : AV
  val : AV
  born : Nat
  deriving Inhabited
/-- What a number stands for: a variable's cells; a row that may be appended to (m: and written in); a row that may only be read; a map; a walk through a map. -/
inductive AO where
  | cells (cs : List AV)
  | row (m : Bool) (e : TypeId) (items : List (List AV))
  | frz (e : TypeId) (items : List (List AV))
  | map (es : List ME) (clock : Nat)
  | iter (m : Option Nat) (since : Nat) (seen : List Nat) (last : Nat)
abbrev Hp := Nat → Option AO
/-- Numbers' blocks, and how many cells these have. -/
abbrev Gb := Nat → Option (Nat × Nat)

/-- In the world w the value v is worth that; all cells that it reads for ever lie outside W. -/
inductive Rep (w : World) (W : Nat → Nat → Prop) (gb : Gb) : AV → Value → Prop
  | lit (v : Value) : Rep w W gb (.lit v) v
  | agg (cs : List AV) (vs : List Value) (hl : cs.length = vs.length) (h1 : ∀ u ∈ vs, u.oneCell' = true) (h : ∀ (j : Nat) (c : AV) (u : Value), cs[j]? = some c → vs[j]? = some u → Rep w W gb c u) : Rep w W gb (.agg cs) (.agg vs.toArray)
  | tup (cs : List AV) (vs : List Value) (hl : cs.length = vs.length) (h : ∀ (j : Nat) (c : AV) (u : Value), cs[j]? = some c → vs[j]? = some u → Rep w W gb c u) : Rep w W gb (.tup cs) (.tuple vs.toArray)
  | sl (items : List (List AV)) (sz : Nat) (A : Option Addr) (c b off : Nat) (val : Nat → Value) (hi : ∀ it ∈ items, it.length = sz) (hc : items.length ≤ c) (hm : c ≤ maxLen) (ha : items ≠ [] → A = some ⟨b, off, none⟩)
      (hcell : ∀ (j : Nat) (x : AV), items.flatten[j]? = some x → w.cell? ⟨b, off + j, none⟩ = some (val j)) (hF : ∀ (j : Nat) (x : AV), items.flatten[j]? = some x → ¬ W b (off + j))
      (h1 : ∀ (j : Nat) (x : AV), items.flatten[j]? = some x → (val j).oneCell' = true) (hr : ∀ (j : Nat) (x : AV), items.flatten[j]? = some x → Rep w W gb x (val j)) : Rep w W gb (.sl items) (.slice A items.length c)
  | ref (cs : List AV) (b off : Nat) (val : Nat → Value) (hcell : ∀ (j : Nat) (x : AV), cs[j]? = some x → w.cell? ⟨b, off + j, none⟩ = some (val j)) (hF : ∀ (j : Nat) (x : AV), cs[j]? = some x → ¬ W b (off + j))
      (h1 : ∀ (j : Nat) (x : AV), cs[j]? = some x → (val j).oneCell' = true) (hr : ∀ (j : Nat) (x : AV), cs[j]? = some x → Rep w W gb x (val j)) : Rep w W gb (.ref cs) (.pointer (some ⟨b, off, none⟩))
  | rw (id sz ko len g size c : Nat) (hg : gb id = some (g, size)) (hs : ko * sz + c * sz ≤ size) (hc : len ≤ c) (hm : c ≤ maxLen) : Rep w W gb (.rw id sz ko len) (.slice (some ⟨g, ko * sz, none⟩) len c)
  | rwn (id sz : Nat) : Rep w W gb (.rw id sz 0 0) (.slice none 0 0)
  | rwz (id sz ko off g size : Nat) (hg : gb id = some (g, size)) : Rep w W gb (.rw id sz ko 0) (.slice (some ⟨g, off, none⟩) 0 0)
  | ptr (id off g size : Nat) (hg : gb id = some (g, size)) : Rep w W gb (.ptr id off) (.pointer (some ⟨g, off, none⟩))
  | el (id sz k off g size : Nat) (hg : gb id = some (g, size)) : Rep w W gb (.el id sz k off) (.pointer (some ⟨g, k * sz + off, none⟩))
  | mp (id g size : Nat) (hg : gb id = some (g, size)) : Rep w W gb (.mp id) (.map (some g))
  | ra (id off len c g size : Nat) (hg : gb id = some (g, size)) (hc : len ≤ c) (hm : c ≤ maxLen) : Rep w W gb (.ra id off len) (.slice (some ⟨g, off, none⟩) len c)
  | raz (id off off2 g size : Nat) (hg : gb id = some (g, size)) : Rep w W gb (.ra id off 0) (.slice (some ⟨g, off2, none⟩) 0 0)
  | fn (f : FuncId) (cs : List AV) (vs : List Value) (hl : cs.length = vs.length) (h : ∀ (j : Nat) (c : AV) (u : Value), cs[j]? = some c → vs[j]? = some u → Rep w W gb c u) : Rep w W gb (.fn f cs) (.func (.func f) #[] vs.toArray)
  | dead (v : Value) : Rep w W gb .dead v
  | rc (id sz len c g size : Nat) (hg : gb id = some (g, size)) (hs : c * sz ≤ size) (hc : len ≤ c) (hm : c ≤ maxLen) : Rep w W gb (.rc id sz len c) (.slice (some ⟨g, 0, none⟩) len c)
  | rcn (id sz : Nat) : Rep w W gb (.rc id sz 0 0) (.slice none 0 0)
  | rcz (id sz off g size : Nat) (hg : gb id = some (g, size)) : Rep w W gb (.rc id sz 0 0) (.slice (some ⟨g, off, none⟩) 0 0)
  | ec (id sz k g size : Nat) (hg : gb id = some (g, size)) (hs : (k + 1) * sz ≤ size) : Rep w W gb (.ec id sz k) (.pointer (some ⟨g, k * sz, none⟩))

/-- What gb knows gb' knows too. -/
def Ext (gb gb' : Gb) : Prop := ∀ id p, gb id = some p → gb' id = some p
theorem Ext.refl (gb : Gb) : Ext gb gb := fun _ _ h => h
theorem Ext.trans {a b c : Gb} (h : Ext a b) (h' : Ext b c) : Ext a c := fun id p hp => h' id p (h id p hp)
theorem Rep.keep {w w' : World} {W W' : Nat → Nat → Prop} {gb gb' : Gb} {a : AV} {v : Value} (h : Rep w W gb a v)
    (hk : ∀ b o u, ¬ W b o → w.cell? ⟨b, o, none⟩ = some u → w'.cell? ⟨b, o, none⟩ = some u ∧ ¬ W' b o) (he : Ext gb gb') : Rep w' W' gb' a v := by
  induction h with
  | lit v => exact .lit v
  | agg cs vs hl h1 _ ih => exact .agg cs vs hl h1 ih
  | tup cs vs hl _ ih => exact .tup cs vs hl ih
  | sl items sz A c b off val hi hc hm ha hcell hF h1 _ ih =>
    exact .sl items sz A c b off val hi hc hm ha (fun j x hx => (hk _ _ _ (hF j x hx) (hcell j x hx)).1) (fun j x hx => (hk _ _ _ (hF j x hx) (hcell j x hx)).2) h1 ih
  | ref cs b off val hcell hF h1 _ ih =>
    exact .ref cs b off val (fun j x hx => (hk _ _ _ (hF j x hx) (hcell j x hx)).1) (fun j x hx => (hk _ _ _ (hF j x hx) (hcell j x hx)).2) h1 ih
  | rw id sz ko len g size c hg hs hc hm => exact .rw id sz ko len g size c (he _ _ hg) hs hc hm
  | rwn id sz => exact .rwn id sz
  | rwz id sz ko off g size hg => exact .rwz id sz ko off g size (he _ _ hg)
  | ptr id off g size hg => exact .ptr id off g size (he _ _ hg)
  | el id sz k off g size hg => exact .el id sz k off g size (he _ _ hg)
  | mp id g size hg => exact .mp id g size (he _ _ hg)
  | ra id off len c g size hg hc hm => exact .ra id off len c g size (he _ _ hg) hc hm
  | raz id off off2 g size hg => exact .raz id off off2 g size (he _ _ hg)
  | fn f cs vs hl _ ih => exact .fn f cs vs hl ih
  | dead v => exact .dead v
  | rc id sz len c g size hg hs hc hm => exact .rc id sz len c g size (he _ _ hg) hs hc hm
  | rcn id sz => exact .rcn id sz
  | rcz id sz off g size hg => exact .rcz id sz off g size (he _ _ hg)
  | ec id sz k g size hg hs => exact .ec id sz k g size (he _ _ hg) hs
/-- Whose room is known is a row's beginning. -/
theorem Rep.low {w : World} {W : Nat → Nat → Prop} {gb : Gb} {id sz len c : Nat} {v : Value} (h : Rep w W gb (.rc id sz len c) v) : Rep w W gb (.rw id sz 0 len) v := by
  cases h with
  | rc _ _ _ _ g size hg hs hc hm => have := Rep.rw (w := w) (W := W) id sz 0 len g size c hg (by rw [Nat.zero_mul, Nat.zero_add]; exact hs) hc hm; rwa [Nat.zero_mul] at this
  | rcn => exact .rwn id sz
  | rcz _ _ off g size hg => exact .rwz id sz 0 off g size hg

theorem cell_lt {w : World} {b o : Nat} {u : Value} (h : w.cell? ⟨b, o, none⟩ = some u) : b < w.heap.size := World.block_lt_of_cell? w _ h

/-! ### lists of cells -/
structure RepL (w : World) (W : Nat → Nat → Prop) (gb : Gb) (cs : List AV) (us : List Value) : Prop where
  len : cs.length = us.length
  one : ∀ u ∈ us, u.oneCell' = true
  rep : ∀ (j : Nat) (c : AV) (u : Value), cs[j]? = some c → us[j]? = some u → Rep w W gb c u
section
variable {w w' : World} {W W' : Nat → Nat → Prop} {gb gb' : Gb}
theorem RepL.keep {cs : List AV} {us : List Value} (h : RepL w W gb cs us) (hk : ∀ b o u, ¬ W b o → w.cell? ⟨b, o, none⟩ = some u → w'.cell? ⟨b, o, none⟩ = some u ∧ ¬ W' b o) (he : Ext gb gb') : RepL w' W' gb' cs us :=
  ⟨h.len, h.one, fun j c u hc hu => (h.rep j c u hc hu).keep hk he⟩
theorem RepL.nil : RepL w W gb [] [] := ⟨rfl, by simp, by simp⟩
theorem RepL.append {cs ds : List AV} {us vs : List Value} (h : RepL w W gb cs us) (h' : RepL w W gb ds vs) : RepL w W gb (cs ++ ds) (us ++ vs) := by
  refine ⟨by simp [h.len, h'.len], fun u hu => (List.mem_append.1 hu).elim (h.one u) (h'.one u), fun j c u hc hu => ?_⟩
  by_cases hj : j < cs.length
  · rw [List.getElem?_append_left hj] at hc
    rw [List.getElem?_append_left (by rw [← h.len]; exact hj)] at hu
    exact h.rep j c u hc hu
  · rw [List.getElem?_append_right (by omega)] at hc
    rw [List.getElem?_append_right (by rw [← h.len]; omega), ← h.len] at hu
    exact h'.rep _ c u hc hu
theorem RepL.take {cs : List AV} {us : List Value} (h : RepL w W gb cs us) (n : Nat) : RepL w W gb (cs.take n) (us.take n) := by
  refine ⟨by simp [h.len], fun u hu => h.one u (List.mem_of_mem_take hu), fun j c u hc hu => ?_⟩
  rw [List.getElem?_take] at hc hu
  split at hc
  · rename_i hj
    rw [if_pos hj] at hu
    exact h.rep j c u hc hu
  · cases hc
theorem RepL.drop {cs : List AV} {us : List Value} (h : RepL w W gb cs us) (n : Nat) : RepL w W gb (cs.drop n) (us.drop n) := by
  refine ⟨by simp [h.len], fun u hu => h.one u (List.mem_of_mem_drop hu), fun j c u hc hu => ?_⟩
  rw [List.getElem?_drop] at hc hu
  exact h.rep _ c u hc hu
theorem flatten_at {items : List (List AV)} {sz : Nat} (hi : ∀ it ∈ items, it.length = sz) {k j : Nat} {it : List AV} {x : AV} (hk : items[k]? = some it) (hj : it[j]? = some x) : items.flatten[k * sz + j]? = some x := by
  induction items generalizing k with
  | nil => simp at hk
  | cons i items ih =>
    have h0 := hi i (by simp)
    cases k with
    | zero =>
      simp only [List.getElem?_cons_zero, Option.some.injEq] at hk
      subst hk
      have hlt := (List.getElem?_eq_some_iff.1 hj).1
      rw [List.flatten_cons, Nat.zero_mul, Nat.zero_add, List.getElem?_append_left hlt]; exact hj
    | succ k =>
      rw [List.flatten_cons, List.getElem?_append_right (by rw [h0, Nat.succ_mul]; omega), h0, show (k + 1) * sz + j - sz = k * sz + j from by rw [Nat.succ_mul]; omega]
      exact ih (fun it h => hi it (by simp [h])) (by simpa using hk)
theorem flatten_len {items : List (List AV)} {sz : Nat} (hi : ∀ it ∈ items, it.length = sz) : items.flatten.length = items.length * sz := by
  induction items with
  | nil => simp
  | cons i items ih => rw [List.flatten_cons, List.length_append, hi i (by simp), ih fun it h => hi it (by simp [h]), List.length_cons, Nat.succ_mul]; omega
def setR (l : List AV) (off : Nat) (cs : List AV) : List AV := l.take off ++ cs ++ l.drop (off + cs.length)
theorem RepL.setR {cs ds : List AV} {us vs : List Value} (h : RepL w W gb cs us) (h' : RepL w W gb ds vs) (off : Nat) : RepL w W gb (setR cs off ds) (us.take off ++ vs ++ us.drop (off + vs.length)) := by
  unfold Hv.setR
  rw [h'.len]
  exact ((h.take off).append h').append (h.drop _)
end

/-! ### objects -/
/-- May this cell of the object still be written? -/
def wrO : Option AO → Nat → Prop
  | some (.cells _), _ => True
  | some (.row true _ _), _ => True
  | some (.row false _ items), o => items.flatten.length ≤ o
  | _, _ => False
/-- Is its block nobody else's? -/
def exO : Option AO → Prop
  | some (.frz _ _) | none => False
  | _ => True
def Wh (gb : Gb) (H : Hp) (b o : Nat) : Prop := ∃ id s, gb id = some (b, s) ∧ wrO (H id) o
def Xh (gb : Gb) (H : Hp) (b : Nat) : Prop := ∃ id s, gb id = some (b, s) ∧ exO (H id)
def Wr (F : Nat → Nat → Prop) (gb : Gb) (H : Hp) (b o : Nat) : Prop := F b o ∨ Wh gb H b o
def szOf (P : Program) (e : TypeId) : Nat := ((P.info? e).map (·.size)).getD 0
structure RepE (w : World) (W : Nat → Nat → Prop) (gb : Gb) (e : ME) (x : MapEntry) : Prop where
  born : x.born = e.born
  key : Rep w W gb e.key x.key
  val : Rep w W gb e.val x.val
def mblk (gb : Gb) : Option Nat → Option Nat → Prop
  | none, none => True
  | some id, some g => ∃ s, gb id = some (g, s)
  | _, _ => False
/-- No cell of it is shut against writing. -/
def Cold (size : Nat) (fr : Nat × Nat) : Prop := fr.2 = fr.1 ∨ size ≤ fr.1
/-- A variable's block is never shut. -/
def Cold0 (fr : Nat × Nat) : Prop := fr = (0, 0)
theorem Cold0.cold {fr : Nat × Nat} (h : Cold0 fr) (size : Nat) : Cold size fr := by rw [h]; exact .inl rfl
def ObjRep (P : Program) (w : World) (W : Nat → Nat → Prop) (gb : Gb) (g size : Nat) : AO → Prop
  | .cells cs => ∃ cur e fr, w.heap[g]? = some (.cells cur e fr) ∧ Cold0 fr ∧ cur.size = size ∧ RepL w W gb cs cur.toList
  | .row _ e items => (∀ it ∈ items, it.length = szOf P e) ∧ ∃ cur fr, w.heap[g]? = some (.cells cur e fr) ∧ Cold size fr ∧ cur.size = size ∧ items.flatten.length ≤ size ∧ RepL w W gb items.flatten (cur.toList.take items.flatten.length)
  | .frz e items => (∀ it ∈ items, it.length = szOf P e) ∧ ∃ cur fr, w.heap[g]? = some (.cells cur e fr) ∧ Cold size fr ∧ cur.size = size ∧ items.flatten.length ≤ size ∧ RepL w W gb items.flatten (cur.toList.take items.flatten.length) ∧ ∀ o, o < items.flatten.length → ¬ W g o
  | .map es clock => ∃ ents : Array MapEntry, w.heap[g]? = some (.map ents clock) ∧ es.length = ents.size ∧ ∀ (j : Nat) (e : ME) (x : MapEntry), es[j]? = some e → ents[j]? = some x → RepE w W gb e x
  | .iter m since seen last => ∃ mb, mblk gb m mb ∧ w.heap[g]? = some (.mapIter mb since seen.toArray last)
def Live (P : Program) (w : World) (W : Nat → Nat → Prop) (gb : Gb) (id : Nat) (o : AO) : Prop :=
  (∃ g size, gb id = some (g, size) ∧ ObjRep P w W gb g size o) ∨ (gb id = none ∧ ∃ m e, o = .row m e [])
structure HeapOk (P : Program) (w : World) (F : Nat → Nat → Prop) (gb : Gb) (H : Hp) (n : Nat) : Prop where
  lt : ∀ id g s, gb id = some (g, s) → id < n ∧ g < w.heap.size
  new : ∀ id, n ≤ id → H id = none
  live : ∀ id o, H id = some o → Live P w (Wr F gb H) gb id o
  one : ∀ i j g s t, gb i = some (g, s) → gb j = some (g, t) → exO (H i) → exO (H j) → i = j
  FB : ∀ b o, F b o → b < w.heap.size
  FX : ∀ b o, F b o → ¬ Xh gb H b
/-- From w to w' nothing is changed but blocks of X, and of cells none but those of W. -/
structure Kept (X : Nat → Prop) (W : Nat → Nat → Prop) (w w' : World) : Prop where
  os : w'.os = w.os
  tape : w'.tape = w.tape
  output : w'.output = w.output
  size : w.heap.size ≤ w'.heap.size
  block : ∀ k, k < w.heap.size → ¬ X k → w'.heap[k]? = w.heap[k]?
  cell : ∀ b o u, ¬ W b o → w.cell? ⟨b, o, none⟩ = some u → w'.cell? ⟨b, o, none⟩ = some u
theorem Kept.refl (X : Nat → Prop) (W : Nat → Nat → Prop) (w : World) : Kept X W w w := ⟨rfl, rfl, rfl, Nat.le_refl _, fun _ _ _ => rfl, fun _ _ _ _ h => h⟩
theorem Kept.of_below {X : Nat → Prop} {W : Nat → Nat → Prop} {w w' : World} (h : Below w.heap.size w w') : Kept X W w w' :=
  ⟨h.os, h.tape, h.output, h.size, fun k hk _ => h.block k hk, fun b o u _ hc => (h.cell (p := ⟨b, o, none⟩) (cell_lt hc)).trans hc⟩
theorem Kept.to_below {w w' : World} {W : Nat → Nat → Prop} (h : Kept (fun _ => False) W w w') : Below w.heap.size w w' := ⟨h.os, h.tape, h.output, h.size, fun k hk => h.block k hk fun hx => hx⟩
theorem Kept.trans {X X' : Nat → Prop} {W W' : Nat → Nat → Prop} {w w' w'' : World} (h : Kept X W w w') (h' : Kept X' W' w' w'') (hx : ∀ k, k < w.heap.size → X' k → X k) (hw : ∀ b o, b < w.heap.size → W' b o → W b o) : Kept X W w w'' :=
  ⟨h'.os.trans h.os, h'.tape.trans h.tape, h'.output.trans h.output, Nat.le_trans h.size h'.size, fun k hk hn => (h'.block k (Nat.lt_of_lt_of_le hk h.size) fun hx' => hn (hx k hk hx')).trans (h.block k hk hn),
    fun b o u hn hc => h'.cell b o u (fun hw' => hn (hw b o (cell_lt hc) hw')) (h.cell b o u hn hc)⟩

/-! ### states -/
structure AS where
  env : List (Nat × AV)
  heap : Hp
  next : Nat
def lkp {α : Type} (d : α) : List (Nat × α) → Nat → α
  | [], _ => d
  | (k, a) :: r, t => bif Nat.beq k t then a else lkp d r t
def AS.get (s : AS) (t : Nat) : AV := lkp .dead s.env t
def AS.set (s : AS) (d : Nat) (v : AV) : AS := ⟨(d, v) :: s.env, s.heap, s.next⟩
def AS.put (s : AS) (d : Option Nat) (v : AV) : AS := match d with | some d => s.set d v | none => s
def upd (H : Hp) (i : Nat) (o : Option AO) : Hp := fun j => bif Nat.beq i j then o else H j
theorem upd_at (H : Hp) (i j : Nat) (o : Option AO) : upd H i o j = bif Nat.beq i j then o else H j := rfl
theorem upd_same (H : Hp) (i : Nat) (o : Option AO) : upd H i o i = o := by unfold upd; simp
theorem upd_other {H : Hp} {i j : Nat} {o : Option AO} (h : i ≠ j) : upd H i o j = H j := by
  unfold upd
  have : Nat.beq i j = false := by rw [← Bool.not_eq_true]; intro h'; exact h (Nat.eq_of_beq_eq_true h')
  rw [this]; rfl
def isNilV : Value → Bool | .slice none 0 0 => true | _ => false
theorem lkp_map {α β : Type} (f : α → β) (d : α) (l : List (Nat × α)) (t : Nat) : lkp (f d) (l.map fun p => (p.1, f p.2)) t = f (lkp d l t) := by
  induction l with
  | nil => rfl
  | cons p l ih =>
    simp only [List.map_cons, lkp, ih]
    cases Nat.beq p.1 t <;> rfl
theorem AS.get_set (s : AS) (d t : Nat) (v : AV) : (s.set d v).get t = if t = d then v else s.get t := by
  unfold AS.get AS.set
  show (bif Nat.beq d t then v else lkp .dead s.env t) = _
  by_cases h : t = d
  · subst h; simp
  · have : Nat.beq d t = false := by
      rw [← Bool.not_eq_true]; intro h'; exact h (Nat.eq_of_beq_eq_true h').symm
    simp [this, h]
/-- A frame, begun at the world w0 over the heap H0, in the world w. -/
structure Good (P : Program) (N : Nat) (F : Nat → Nat → Prop) (w0 : World) (gb0 : Gb) (H0 : Hp) (s : AS) (a : Act) (w : World) (gb : Gb) : Prop where
  kept : Kept (Xh gb0 H0) (Wh gb0 H0) w0 w
  ext : Ext gb0 gb
  ok : HeapOk P w F gb s.heap s.next
  wr0 : ∀ b o, b < w0.heap.size → Wh gb s.heap b o → Wh gb0 H0 b o
  x0 : ∀ b, b < w0.heap.size → Xh gb s.heap b → Xh gb0 H0 b
  size : a.tmps.size = N
  defers : a.defers = []
  slots : ∀ t, Rep w (Wr F gb s.heap) gb (s.get t) (a.tmps.getD t undef)
def R (P : Program) (N : Nat) (F : Nat → Nat → Prop) (w0 : World) (gb0 : Gb) (H0 : Hp) (s : AS) (a : Act) (w : World) : Prop := ∃ gb, Good P N F w0 gb0 H0 s a w gb

section
variable {P : Program} {N : Nat} {F : Nat → Nat → Prop} {w0 w w' : World} {gb0 gb gb' : Gb} {H0 H H' : Hp} {s : AS} {a : Act} {n n' : Nat}
theorem getD_put {a : Act} {d t : Nat} {v : Value} (hd : d < a.tmps.size) : (a.put (some d) v).tmps.getD t undef = if t = d then v else a.tmps.getD t undef := by
  show (a.tmps.setIfInBounds d v).getD t undef = _
  by_cases h : t = d
  · subst h; simp [hd]
  · have h' : d ≠ t := fun e => h e.symm
    simp only [h, if_false]
    simp only [Array.getD_eq_getD_getElem?]
    rw [Array.getElem?_setIfInBounds_ne h']
theorem size_put {a : Act} {d : Option Nat} {v : Value} : (a.put d v).tmps.size = a.tmps.size := by
  cases d with
  | none => rfl
  | some d => show (a.tmps.setIfInBounds d v).size = _; simp
theorem defers_put {a : Act} {d : Option Nat} {v : Value} : (a.put d v).defers = a.defers := by
  cases d <;> rfl
theorem put_heap {d : Option Nat} {x : AV} : (s.put d x).heap = s.heap := by cases d <;> rfl
theorem put_next {d : Option Nat} {x : AV} : (s.put d x).next = s.next := by cases d <;> rfl
theorem Good.put {d : Option Nat} {x : AV} {v : Value} (h : Good P N F w0 gb0 H0 s a w gb) (hd : ∀ k, d = some k → k < N) (hx : Rep w (Wr F gb s.heap) gb x v) : Good P N F w0 gb0 H0 (s.put d x) (a.put d v) w gb := by
  cases d with
  | none => exact h
  | some d =>
    have hd' : d < a.tmps.size := by rw [h.size]; exact hd d rfl
    refine ⟨h.kept, h.ext, h.ok, h.wr0, h.x0, size_put.trans h.size, defers_put.trans h.defers, fun t => ?_⟩
    rw [getD_put hd']
    show Rep w _ gb ((s.set d x).get t) _
    rw [AS.get_set]
    split
    · exact hx
    · exact h.slots t
theorem Good.dead {d : Option Nat} {v : Value} (h : Good P N F w0 gb0 H0 s a w gb) (hd : ∀ k, d = some k → k < N) : Good P N F w0 gb0 H0 (s.put d .dead) (a.put d v) w gb := h.put hd (.dead _)
theorem wrO_exO {o : Option AO} {k : Nat} (h : wrO o k) : exO o := by
  unfold wrO at h
  split at h <;> first | trivial | exact h.elim
theorem Wh.x {b o : Nat} (h : Wh gb H b o) : Xh gb H b := by
  obtain ⟨id, s, h1, h2⟩ := h
  exact ⟨id, s, h1, wrO_exO h2⟩
/-- What is there stays, and there may be more: the state is as good. -/
theorem ObjRep.keep {W W' : Nat → Nat → Prop} {g size : Nat} {o : AO} (h : ObjRep P w W gb g size o) (hb : w'.heap[g]? = w.heap[g]?) (hk : ∀ b o u, ¬ W b o → w.cell? ⟨b, o, none⟩ = some u → w'.cell? ⟨b, o, none⟩ = some u ∧ ¬ W' b o) (he : Ext gb gb') : ObjRep P w' W' gb' g size o := by
  cases o with
  | cells cs =>
    obtain ⟨cur, e, fr, h1, hf, h2, h3⟩ := h
    exact ⟨cur, e, fr, hb.trans h1, hf, h2, h3.keep hk he⟩
  | row m e items =>
    obtain ⟨h0, cur, fr, h1, hf, h2, h3, h4⟩ := h
    exact ⟨h0, cur, fr, hb.trans h1, hf, h2, h3, h4.keep hk he⟩
  | frz e items =>
    obtain ⟨h0, cur, fr, h1, hf, h2, h3, h4, h5⟩ := h
    refine ⟨h0, cur, fr, hb.trans h1, hf, h2, h3, h4.keep hk he, fun o ho => ?_⟩
    have hlt : o < cur.size := by omega
    exact (hk g o cur[o] (h5 o ho) (by simp [World.cell?, h1, hlt])).2
  | map es clock =>
    obtain ⟨ents, h1, h2, h3⟩ := h
    exact ⟨ents, hb.trans h1, h2, fun j e x hj hx => ⟨(h3 j e x hj hx).born, (h3 j e x hj hx).key.keep hk he, (h3 j e x hj hx).val.keep hk he⟩⟩
  | iter m since seen last =>
    obtain ⟨mb, h1, h2⟩ := h
    refine ⟨mb, ?_, hb.trans h2⟩
    unfold mblk at h1 ⊢
    split at h1
    · trivial
    · obtain ⟨s, hs⟩ := h1; exact ⟨s, he _ _ hs⟩
    · exact h1.elim
/-- Over a world in which all that is there stays. -/
theorem HeapOk.world (h : HeapOk P w F gb H n) (hb : Below w.heap.size w w') : HeapOk P w' F gb H n := by
  have hk : ∀ b o u, ¬ Wr F gb H b o → w.cell? ⟨b, o, none⟩ = some u → w'.cell? ⟨b, o, none⟩ = some u ∧ ¬ Wr F gb H b o := fun b o u hn hc => ⟨(hb.cell (p := ⟨_, _, none⟩) (cell_lt hc)).trans hc, hn⟩
  refine ⟨fun id g s hg => ⟨(h.lt id g s hg).1, Nat.lt_of_lt_of_le (h.lt id g s hg).2 hb.size⟩, h.new, fun id o ho => ?_, h.one, fun b o hf => Nat.lt_of_lt_of_le (h.FB b o hf) hb.size, h.FX⟩
  rcases h.live id o ho with ⟨g, size, hg, hr⟩ | hr
  · exact .inl ⟨g, size, hg, hr.keep (hb.block g (h.lt id g size hg).2) hk (Ext.refl _)⟩
  · exact .inr hr
theorem Good.world (h : Good P N F w0 gb0 H0 s a w gb) (hb : Below w.heap.size w w') : Good P N F w0 gb0 H0 s a w' gb :=
  { h with
    kept := h.kept.trans (.of_below (X := fun _ => False) (W := fun _ _ => False) hb) (fun _ _ hx => hx.elim) (fun _ _ _ hx => hx.elim)
    ok := h.ok.world hb
    slots := fun t => (h.slots t).keep (fun b o u hn hc => ⟨(hb.cell (p := ⟨_, _, none⟩) (cell_lt hc)).trans hc, hn⟩) (Ext.refl _) }
end
end Go.Proofs.Ytheanmfdfoefoaa.Hv
set_option linter.unusedVariables false
set_option linter.unusedSimpArgs false
namespace Go.Proofs.Ytheanmfdfoefoaa.Hv
open Go Go.RowKit

structure SlI where
  e : Nat
  size : Nat
  bytes : Nat
  zero : Value
structure MpI where
  key : Nat
  elem : Nat
  zero : Value
structure Tbl where
  sls : List (Nat × SlI)
  szs : List (Nat × Option Nat)
  flds : List (Nat × List (Nat × Nat))
  ints : List (Nat × IntKind)
  strs : List Nat
  zeros : List (Nat × Value)
  fszs : List (Nat × List (Nat × Nat))
  eqs : List (Nat × (List Value → List Value → Option Bool))
  ptrs : List Nat
  bools : List Nat
  arrs : List (Nat × Nat × Nat × Nat)
  byts : List Nat
  maps : List (Nat × MpI)
  keys : List (Nat × List CK)
  pks : List Nat
def lk? {α : Type} (l : List (Nat × α)) (t : Nat) : Option α := lkp none (l.map fun p => (p.1, some p.2)) t
theorem lk?_mem {α : Type} {l : List (Nat × α)} {t : Nat} {x : α} (h : lk? l t = some x) : (t, x) ∈ l := by
  induction l with
  | nil => cases h
  | cons p l ih =>
    unfold lk? at h
    simp only [List.map_cons, lkp] at h
    cases hb : Nat.beq p.1 t with
    | true =>
      rw [hb] at h
      have h1 : some p.2 = some x := h
      injection h1 with h1
      have h2 := Nat.eq_of_beq_eq_true hb
      rw [← h1, ← h2]; exact List.mem_cons_self
    | false =>
      rw [hb] at h
      exact List.mem_cons_of_mem _ (ih h)
def okSl (P : Program) (p : Nat × SlI) : Prop := ElemT P p.1 p.2.e p.2.zero p.2.size p.2.bytes
def isAggD : TypeDesc → Bool | .struct _ | .array _ _ => true | _ => false
def okSz (P : Program) (p : Nat × Option Nat) : Prop := match p.2 with
  | none => (P.underlying p.1).map isAggD = some false ∧ (P.info? p.1).map (·.size) = some 1
  | some n => (P.underlying p.1).map isAggD = some true ∧ (P.info? p.1).map (·.size) = some n
def fldOf (P : Program) (t i : Nat) : Option (Nat × Bool) := match P.underlying t with
  | some (.struct fs) => match fs[i]? with
    | some f => match P.info? f.type with
      | some j => some (f.offset, Nat.beq j.size 0)
      | none => none
    | none => none
  | _ => none
def placesOf (P : Program) (t : Nat) : Option (List (Nat × Nat)) := match P.underlying t with
  | some (.struct fs) => fs.toList.mapM fun f => (P.info? f.type).map fun i => (f.offset, i.size)
  | some (.array n e) => (P.info? e).map fun i => (List.range n).map fun k => (k * i.size, i.size)
  | _ => none
def okFsz (P : Program) (p : Nat × List (Nat × Nat)) : Prop := placesOf P p.1 = some p.2
def okZero (P : Program) (p : Nat × Value) : Prop := (P.info? p.1).map (·.zero) = some (some p.2)
/-- Equality of structs of this type: a function of their cells. -/
def okEq (P : Program) (p : Nat × (List Value → List Value → Option Bool)) : Prop :=
  ∀ us vs b, p.2 us vs = some b → ∀ (X Y : Operand) (w : World), ((do eqGuard .eql p.1 X Y (.agg us.toArray) (.agg vs.toArray); binOp .eql p.1 (.agg us.toArray) (.agg vs.toArray)) : Sem Value).run P w = .ok (.bool b) w ∧
    ((do eqGuard .neq p.1 X Y (.agg us.toArray) (.agg vs.toArray); binOp .neq p.1 (.agg us.toArray) (.agg vs.toArray)) : Sem Value).run P w = .ok (.bool !b) w
def okFld (P : Program) (p : Nat × List (Nat × Nat)) : Prop := ∀ q ∈ p.2, fldOf P p.1 q.1 = some (q.2, false)
def isPtrD : TypeDesc → Bool | .pointer _ => true | _ => false
def okPtr (P : Program) (p : Nat) : Prop := (P.underlying p).map isPtrD = some true
/-- An array: how many, a thing's type, its size. -/
def okArr (P : Program) (p : Nat × Nat × Nat × Nat) : Prop := P.underlying p.1 = some (.array p.2.1 p.2.2.1) ∧ (P.info? p.2.2.1).map (·.size) = some p.2.2.2
/-- Bytes. -/
def okByt (P : Program) (p : Nat) : Prop := ∃ e, P.underlying p = some (.slice e) ∧ P.underlying e = some (.int .u8) ∧ (P.info? e).map (·.size) = some 1
def okMap (P : Program) (p : Nat × MpI) : Prop := P.underlying p.1 = some (.map p.2.key p.2.elem) ∧ (P.info? p.2.elem).map (·.zero) = some (some p.2.zero)
/-- A type of keys: a struct or an array of integers, texts, booleans. -/
def okKey (P : Program) (p : Nat × List CK) : Prop := flatTy P 8 p.1 = some p.2 ∧ aggTy P p.1 = true
/-- Addresses of what has a size. -/
def pkB (P : Program) (p : Nat) : Bool := match P.underlying p with
  | some (.pointer e) => match P.info? e with
    | some i => !(Nat.beq i.size 0)
    | none => false
  | _ => false
structure Tbl.Ok (P : Program) (T : Tbl) : Prop where
  sls : ∀ p ∈ T.sls, okSl P p
  szs : ∀ p ∈ T.szs, okSz P p
  flds : ∀ p ∈ T.flds, okFld P p
  ints : ∀ p ∈ T.ints, P.underlying p.1 = some (.int p.2)
  strs : ∀ p ∈ T.strs, P.underlying p = some .string
  zeros : ∀ p ∈ T.zeros, okZero P p
  fszs : ∀ p ∈ T.fszs, okFsz P p
  eqs : ∀ p ∈ T.eqs, okEq P p
  ptrs : ∀ p ∈ T.ptrs, okPtr P p
  bools : ∀ p ∈ T.bools, P.underlying p = some .bool
  arrs : ∀ p ∈ T.arrs, okArr P p
  byts : ∀ p ∈ T.byts, okByt P p
  maps : ∀ p ∈ T.maps, okMap P p
  keys : ∀ p ∈ T.keys, okKey P p
  pks : ∀ p ∈ T.pks, pkB P p = true

/-- Equality of such structs. -/
def eqFl (ks : List CK) (us vs : List Value) : Option Bool := bif kmatch ks us && kmatch ks vs then some (veqs us vs) else none
theorem okEq_flat {P : Program} {t : Nat} {ks : List CK} (h : flatTy P 8 t = some ks ∧ aggTy P t = true) (hm : P.eqGuardType P.depth t = false) : okEq P (t, eqFl ks) := by
  intro us vs b hb X Y w
  simp only [eqFl] at hb
  cases hk : (kmatch ks us && kmatch ks vs) with
  | false => rw [hk] at hb; cases hb
  | true =>
    rw [hk] at hb
    simp only [cond_true, Option.some.injEq] at hb
    subst hb
    rw [Bool.and_eq_true] at hk
    have e := eq_flat 8 9992 t ks h.1 us vs w hk.1 hk.2
    rw [h.2] at e
    simp only [mkV, cond_true] at e
    constructor
    · rw [Sem.run_bind, run_eqGuard_agg _ _ _ _ _ _ _ hm, Result.andThen_ok, run_eql_struct, e]; rfl
    · rw [Sem.run_bind, run_eqGuard_agg _ _ _ _ _ _ _ hm, Result.andThen_ok, run_neq_struct, e]; rfl

/-! ### readings -/
def AV.bool? : AV → Option Bool | .lit (.bool b) => some b | _ => none
def AV.int? : AV → Option (IntKind × Int) | .lit (.int k n) => some (k, n) | _ => none
def smin (a b : ByteArray) : ByteArray := if (Op.bytesLess a.toList b.toList || a.toList == b.toList) = true then a else b
def smax (a b : ByteArray) : ByteArray := if Op.bytesLess a.toList b.toList = true then b else a
theorem run_smin {P : Program} (w : World) (ts : Array TypeId) (t : TypeId) (x y : ByteArray) : (Builtin.min_ ts t #[.string x, .string y]).run P w = .ok (.string (smin x y)) w := by
  unfold smin
  cases h1 : Op.bytesLess x.toList y.toList <;> cases h2 : (x.toList == y.toList) <;> simp [Builtin.min_, Builtin.min2, Op.stringOp, asBool, h1, h2]
theorem run_smax {P : Program} (w : World) (ts : Array TypeId) (t : TypeId) (x y : ByteArray) : (Builtin.max_ ts t #[.string x, .string y]).run P w = .ok (.string (smax x y)) w := by
  unfold smax
  cases h1 : Op.bytesLess x.toList y.toList <;> simp [Builtin.max_, Builtin.max2, Op.stringOp, asBool, h1]
def AV.str? : AV → Option ByteArray | .lit (.string s) => some s | _ => none
def AV.lit? : AV → Option Value | .lit v => some v | _ => none
def AV.num? (x : AV) : Option Int := match x with | .lit (.int _ n) => some n | _ => none
/-- A piece of a row's things. -/
def piece (items : List (List AV)) (ko len : Nat) : List (List AV) := bif Nat.beq ko 0 then items.take len else (items.drop ko).take len
def headLen : List (List AV) → Nat | it :: _ => it.length | [] => 0
def fits (items : List (List AV)) (sz ko len : Nat) : Bool := bif Nat.beq ko 0 then Nat.ble len items.length else (Nat.beq (headLen items) sz && Nat.ble (ko + len) items.length)
/-- The things of a slice, by the heap. -/
def AV.its? (H : Hp) : AV → Option (List (List AV))
  | .sl items => some items
  | .rw id sz ko len => match H id with
    | some (.row _ _ items) => bif fits items sz ko len then some (piece items ko len) else none
    | some (.frz _ items) => bif fits items sz ko len then some (piece items ko len) else none
    | _ => none
  | .ra id off len => match H id with
    | some (.cells cs) => bif Nat.ble (off + len) cs.length then some (((cs.drop off).take len).map fun c => [c]) else none
    | _ => none
  | .rc id sz len _ => match H id with
    | some (.row _ _ items) => bif fits items sz 0 len then some (piece items 0 len) else none
    | some (.frz _ items) => bif fits items sz 0 len then some (piece items 0 len) else none
    | _ => none
  | .lit v => bif isNilV v then some [] else none
  | _ => none
def AV.cells : AV → List AV
  | .agg cs => cs
  | .lit (.agg cs) => cs.toList.map .lit
  | a => [a]
def aint (op : BinOp) (k : IntKind) (a b : Int) : Option Value :=
  match op with
  | .add => some (.int k (k.wrap (a + b)))
  | .sub => some (.int k (k.wrap (a - b)))
  | .mul => some (.int k (k.wrap (a * b)))
  | .quo => if b = 0 then none else some (.int k (k.wrap (a.tdiv b)))
  | .rem => if b = 0 then none else some (.int k (a.tmod b))
  | .eql => some (.bool (a == b))
  | .neq => some (.bool (a != b))
  | .lss => some (.bool (decide (a < b)))
  | .leq => some (.bool (decide (a ≤ b)))
  | .gtr => some (.bool (decide (a > b)))
  | .geq => some (.bool (decide (a ≥ b)))
  | .and => some (.int k (k.wrap ((BitVec.ofInt k.bits a &&& BitVec.ofInt k.bits b).toNat)))
  | .or => some (.int k (k.wrap ((BitVec.ofInt k.bits a ||| BitVec.ofInt k.bits b).toNat)))
  | .xor => some (.int k (k.wrap ((BitVec.ofInt k.bits a ^^^ BitVec.ofInt k.bits b).toNat)))
  | .andNot => some (.int k (k.wrap ((BitVec.ofInt k.bits a &&& ~~~(BitVec.ofInt k.bits b)).toNat)))
  | _ => none
def ashift (op : BinOp) (k : IntKind) (a b : Int) : Option Value :=
  if b < 0 then none else match op with
  | .shl => some (.int k (k.wrap (a * 2 ^ (min b.toNat k.bits))))
  | .shr => some (.int k (a.fdiv (2 ^ (min b.toNat k.bits))))
  | _ => none
def astr (op : BinOp) (a b : ByteArray) : Option Value :=
  match op with
  | .add => if 9223372036854775807 < a.size + b.size then none else some (.string (a ++ b))
  | .eql => some (.bool (a.toList == b.toList))
  | .neq => some (.bool (!(a.toList == b.toList)))
  | .lss => some (.bool (Op.bytesLess a.toList b.toList))
  | .leq => some (.bool (Op.bytesLess a.toList b.toList || a.toList == b.toList))
  | .gtr => some (.bool (!(Op.bytesLess a.toList b.toList || a.toList == b.toList)))
  | .geq => some (.bool (!(Op.bytesLess a.toList b.toList)))
  | _ => none
def isShift : BinOp → Bool | .shl | .shr => true | _ => false
def abin (op : BinOp) (x y : Value) : Option Value :=
  match x, y with
  | .int k a, .int k' b => bif isShift op then ashift op k a b else bif decide (k = k') then aint op k a b else none
  | .string a, .string b => astr op a b
  | _, _ => none
def lits : List AV → Option (List Value)
  | [] => some []
  | .lit v :: r => match lits r with
    | some vs => some (v :: vs)
    | none => none
  | _ :: _ => none
def AV.aggc? : AV → Option (List Value)
  | .agg cs => lits cs
  | .lit (.agg cs) => some cs.toList
  | _ => none
def aeq (T : Tbl) (op : BinOp) (t : Nat) (us vs : List Value) : Option Value :=
  match lk? T.eqs t with
  | some f => match f us vs with
    | some b => match op with
      | .eql => some (.bool b)
      | .neq => some (.bool !b)
      | _ => none
    | none => none
  | none => none
/-- Is it an address, one of which is nil? -/
def ptrEq : AV → AV → Option Bool
  | .ptr _ _, .lit (.pointer none) => some false
  | .el _ _ _ _, .lit (.pointer none) => some false
  | .ref _, .lit (.pointer none) => some false
  | .lit (.pointer none), .ptr _ _ => some false
  | .lit (.pointer none), .lit (.pointer none) => some true
  | _, _ => none
def boolEq : AV → AV → Option Bool
  | .lit (.bool a), .lit (.bool b) => some (a == b)
  | _, _ => none
def aptr (T : Tbl) (op : BinOp) (t : Nat) (x y : AV) : Option Value :=
  match (bif T.ptrs.elem t then ptrEq x y else bif T.bools.elem t then boolEq x y else none) with
  | some b => match op with
    | .eql => some (.bool b)
    | .neq => some (.bool !b)
    | _ => none
  | none => none
def binv (T : Tbl) (op : BinOp) (t : Nat) (x y : AV) : Option Value :=
  match x.lit?, y.lit? with
  | some u, some v => match abin op u v with
    | some r => some r
    | none => match x.aggc?, y.aggc? with
      | some us, some vs => aeq T op t us vs
      | _, _ => aptr T op t x y
  | _, _ => match x.aggc?, y.aggc? with
    | some us, some vs => aeq T op t us vs
    | _, _ => aptr T op t x y
theorem abin_run {P : Program} {op : BinOp} {t : TypeId} {x y v : Value} (h : abin op x y = some v) (X Y : Operand) (w : World) : ((do eqGuard op t X Y x y; binOp op t x y) : Sem Value).run P w = .ok v w := by
  unfold abin at h
  split at h
  · rename_i k a k' b
    rw [eqGuard_at_int]
    cases hs : isShift op with
    | true =>
      rw [hs] at h
      simp only [cond_true, ashift] at h
      split at h
      · cases h
      · rename_i hb
        cases op <;> first | cases hs | skip
        all_goals
          simp only [Option.some.injEq] at h
          subst h
          simp [binOp, Op.shift, hb]
    | false =>
      rw [hs] at h
      simp only [cond_false] at h
      by_cases hk : k = k'
      · subst hk
        simp only [decide_true, cond_true] at h
        cases op <;> first | cases hs | skip
        all_goals
          simp only [aint] at h
          first
            | (cases h; done)
            | (split at h
               · cases h
               · rename_i hb
                 simp only [Option.some.injEq] at h
                 subst h
                 simp [binOp, Op.intDiv, hb])
            | (simp only [Option.some.injEq] at h
               subst h
               simp [binOp, Op.intArith, Op.intCmp, Op.intBits])
      · simp [hk] at h
  · rename_i a b
    rw [eqGuard_at_string]
    cases op <;> simp only [astr] at h <;> first
      | (cases h; done)
      | (split at h
         · cases h
         · rename_i hb
           simp only [Option.some.injEq] at h
           subst h
           exact run_string_add_sum w a b (by omega))
      | (simp only [Option.some.injEq] at h
         subst h
         simp [binOp, Op.stringOp])
  · cases h
def aun (op : UnOp) (x : Value) : Option Value :=
  match op, x with
  | .neg, .int k n => some (.int k (k.wrap (0 - n)))
  | .xor, .int k n => some (.int k (k.wrap ((BitVec.ofInt k.bits (if k.signed then -1 else k.max) ^^^ BitVec.ofInt k.bits n).toNat)))
  | .not, .bool b => some (.bool !b)
  | _, _ => none
theorem aun_run {P : Program} {op : UnOp} {x v : Value} (h : aun op x = some v) (w : World) : (Op.unary op x).run P w = .ok v w := by
  unfold aun at h
  split at h <;> first | (cases h; done) | (simp only [Option.some.injEq] at h; subst h; simp [Op.unary, Op.intArith, Op.intBits])

/-! ### reading what a state says -/
def AS.eval (s : AS) : Operand → AV
  | .tmp t => s.get t
  | .const v => .lit v
  | .global g => .lit (.pointer (some ⟨g, 0, none⟩))
  | .func f => .fn f []
section
variable {P : Program} {T : Tbl} {N : Nat} {F : Nat → Nat → Prop} {w0 w w' : World} {gb0 gb gb' : Gb} {H0 H H' : Hp} {s : AS} {a : Act} {n n' : Nat} {W : Nat → Nat → Prop}
theorem Good.eval (g : Good P N F w0 gb0 H0 s a w gb) (x : Operand) : Rep w (Wr F gb s.heap) gb (s.eval x) (a.eval x) := by
  cases x with
  | tmp t => exact g.slots t
  | const v => exact Rep.lit v
  | global n => exact Rep.lit _
  | func f => exact Rep.fn f [] [] rfl (fun j c u hc _ => by simp at hc)
theorem rep_lit {v u : Value} (h : Rep w W gb (.lit v) u) : u = v := by cases h; rfl
theorem rep_bool {x : AV} {v : Value} {b : Bool} (h : Rep w W gb x v) (hb : x.bool? = some b) : v = .bool b := by
  unfold AV.bool? at hb
  split at hb
  · simp only [Option.some.injEq] at hb; subst hb; exact rep_lit h
  · cases hb
theorem rep_int {x : AV} {v : Value} {k : IntKind} {n : Int} (h : Rep w W gb x v) (hb : x.int? = some (k, n)) : v = .int k n := by
  unfold AV.int? at hb
  split at hb
  · simp only [Option.some.injEq, Prod.mk.injEq] at hb; obtain ⟨rfl, rfl⟩ := hb; exact rep_lit h
  · cases hb
theorem rep_str? {x : AV} {v : Value} {a : ByteArray} (h : Rep w W gb x v) (hb : x.str? = some a) : v = .string a := by
  unfold AV.str? at hb
  split at hb
  · simp only [Option.some.injEq] at hb; subst hb; exact rep_lit h
  · cases hb
theorem rep_lit? {x : AV} {v u : Value} (h : Rep w W gb x v) (hb : x.lit? = some u) : v = u := by
  unfold AV.lit? at hb
  split at hb
  · simp only [Option.some.injEq] at hb; subst hb; exact rep_lit h
  · cases hb
theorem rep_num {x : AV} {v : Value} {n : Int} (h : Rep w W gb x v) (hb : x.num? = some n) : ∃ k, v = .int k n := by
  unfold AV.num? at hb
  split at hb
  · rename_i k m
    simp only [Option.some.injEq] at hb; subst hb; exact ⟨k, rep_lit h⟩
  · cases hb
theorem rep_lits {cs : List AV} {us vs : List Value} (hl : cs.length = us.length) (h : ∀ (j : Nat) (c : AV) (u : Value), cs[j]? = some c → us[j]? = some u → Rep w W gb c u) (hv : lits cs = some vs) : us = vs := by
  induction cs generalizing us vs with
  | nil =>
    simp only [lits, Option.some.injEq] at hv
    subst hv
    exact List.eq_nil_of_length_eq_zero hl.symm
  | cons c cs ih =>
    cases us with
    | nil => simp at hl
    | cons u us =>
      cases c with
      | lit v =>
        simp only [lits] at hv
        split at hv
        · rename_i vs' hvs
          simp only [Option.some.injEq] at hv
          subst hv
          have h0 := h 0 (.lit v) u rfl rfl
          rw [rep_lit h0, ih (by simpa using hl) (fun j c u hc hu => h (j + 1) c u hc hu) hvs]
        · cases hv
      | _ => simp [lits] at hv
theorem rep_aggc {x : AV} {v : Value} {us : List Value} (h : Rep w W gb x v) (hb : x.aggc? = some us) : v = .agg us.toArray := by
  unfold AV.aggc? at hb
  split at hb
  · cases h with
    | agg _ vs hl h1 hr => rw [rep_lits hl hr hb]
  · simp only [Option.some.injEq] at hb
    subst hb
    rw [rep_lit h]
  · cases hb
theorem aeq_run {op : BinOp} {t : Nat} {us vs : List Value} {r : Value} (hT : T.Ok P) (h : aeq T op t us vs = some r) (X Y : Operand) (w : World) : ((do eqGuard op t X Y (.agg us.toArray) (.agg vs.toArray); binOp op t (.agg us.toArray) (.agg vs.toArray)) : Sem Value).run P w = .ok r w := by
  unfold aeq at h
  split at h
  · rename_i f hf
    split at h
    · rename_i b hb
      have := hT.eqs _ (lk?_mem hf) us vs b hb X Y w
      split at h
      · simp only [Option.some.injEq] at h; subst h; exact this.1
      · simp only [Option.some.injEq] at h; subst h; exact this.2
      · cases h
    · cases h
  · cases h
theorem run_eqPN (d : Nat) {t e : TypeId} (a : Option Addr) (h : P.underlying t = some (.pointer e)) (w : World) : (Op.equalIn (d + 1) t (.pointer a) (.pointer none)).run P w = .ok a.isNone w := by
  cases a <;> simp [Op.equalIn, run_underlying h]
theorem run_eqNP (d : Nat) {t e : TypeId} (a : Option Addr) (h : P.underlying t = some (.pointer e)) (w : World) : (Op.equalIn (d + 1) t (.pointer none) (.pointer a)).run P w = .ok a.isNone w := by
  cases a <;> simp [Op.equalIn, run_underlying h]
theorem run_ptrEq {t : Nat} {x y : AV} {u v : Value} {b : Bool} (ht : (P.underlying t).map isPtrD = some true) (hx : Rep w W gb x u) (hy : Rep w W gb y v) (h : ptrEq x y = some b) : ∃ p q, u = .pointer p ∧ v = .pointer q ∧ (Op.equal t u v).run P w = .ok b w := by
  obtain ⟨D, hD, hp⟩ := Option.map_eq_some_iff.1 ht
  cases D with
  | pointer e =>
    unfold ptrEq at h
    split at h
    · simp only [Option.some.injEq] at h; subst h
      cases hx with
      | ptr id off g size hg => cases hy; exact ⟨_, _, rfl, rfl, run_eqPN 9999 _ hD w⟩
    · simp only [Option.some.injEq] at h; subst h
      cases hx with
      | el id sz k off g size hg => cases hy; exact ⟨_, _, rfl, rfl, run_eqPN 9999 _ hD w⟩
    · simp only [Option.some.injEq] at h; subst h
      cases hx with
      | ref cs b off val _ _ _ _ => cases hy; exact ⟨_, _, rfl, rfl, run_eqPN 9999 _ hD w⟩
    · simp only [Option.some.injEq] at h; subst h
      cases hy with
      | ptr id off g size hg => cases hx; exact ⟨_, _, rfl, rfl, run_eqNP 9999 _ hD w⟩
    · simp only [Option.some.injEq] at h; subst h
      cases hx; cases hy
      exact ⟨_, _, rfl, rfl, run_eqPN 9999 _ hD w⟩
    · cases h
  | _ => cases hp
theorem aptr_run {op : BinOp} {t : Nat} {x y : AV} {u v r : Value} (hT : T.Ok P) (hx : Rep w W gb x u) (hy : Rep w W gb y v) (h : aptr T op t x y = some r) (X Y : Operand) : ((do eqGuard op t X Y u v; binOp op t u v) : Sem Value).run P w = .ok r w := by
  unfold aptr at h
  split at h
  · rename_i b hb
    cases h1 : T.ptrs.elem t with
    | true =>
      rw [h1] at hb
      obtain ⟨p, q, rfl, rfl, hr⟩ := run_ptrEq (hT.ptrs t (List.elem_iff.1 h1)) hx hy hb
      rw [eqGuard_at_pointer]
      split at h
      · simp only [Option.some.injEq] at h; subst h
        simp [binOp, hr]
      · simp only [Option.some.injEq] at h; subst h
        simp [binOp, hr]
      · cases h
    | false =>
      rw [h1] at hb
      simp only [cond_false] at hb
      cases h2 : T.bools.elem t with
      | true =>
        rw [h2] at hb
        simp only [cond_true] at hb
        unfold boolEq at hb
        split at hb
        · simp only [Option.some.injEq] at hb; subst hb
          cases hx; cases hy
          have hr := run_equal_bool (P := P) (w := w) t
          rw [eqGuard_at_bool]
          split at h
          · simp only [Option.some.injEq] at h; subst h
            simp [binOp, hr _ _ (hT.bools t (List.elem_iff.1 h2))]
          · simp only [Option.some.injEq] at h; subst h
            simp [binOp, hr _ _ (hT.bools t (List.elem_iff.1 h2))]
          · cases h
        · cases hb
      | false => rw [h2] at hb; cases hb
  · cases h
theorem binv_run {op : BinOp} {t : Nat} {x y : AV} {u v r : Value} (hT : T.Ok P) (hx : Rep w W gb x u) (hy : Rep w W gb y v) (h : binv T op t x y = some r) (X Y : Operand) : ((do eqGuard op t X Y u v; binOp op t u v) : Sem Value).run P w = .ok r w := by
  have ag : (match x.aggc?, y.aggc? with
      | some us, some vs => aeq T op t us vs
      | _, _ => aptr T op t x y) = some r → ((do eqGuard op t X Y u v; binOp op t u v) : Sem Value).run P w = .ok r w := by
    intro h
    split at h
    · rename_i us vs hu hv
      rw [rep_aggc hx hu, rep_aggc hy hv]
      exact aeq_run hT h X Y w
    · exact aptr_run hT hx hy h X Y
  unfold binv at h
  split at h
  · rename_i u' v' hu hv
    split at h
    · rename_i r' hr
      simp only [Option.some.injEq] at h
      subst h
      rw [rep_lit? hx hu, rep_lit? hy hv]
      exact abin_run hr X Y w
    · exact ag h
  · exact ag h
end
end Go.Proofs.Ytheanmfdfoefoaa.Hv
set_option linter.unusedVariables false
set_option linter.unusedSimpArgs false
namespace Go.Proofs.Ytheanmfdfoefoaa.Hv
open Go Go.RowKit

def AV.isOne : AV → Bool
  | .lit v => v.oneCell'
  | .sl _ | .ref _ | .rw .. | .ptr .. | .el .. | .mp _ | .ra .. | .rc .. | .ec .. | .fn .. => true
  | _ => false
/-- What others may see of it. -/
def AV.view1 (H : Hp) : AV → AV
  | .lit v => bif isNilV v then .sl [] else .lit v
  | .rw id sz ko len => match H id with
    | some (.row false _ items) => bif fits items sz ko len then .sl (piece items ko len) else .dead
    | some (.frz _ items) => bif fits items sz ko len then .sl (piece items ko len) else .dead
    | _ => .dead
  | .rc id sz len _ => match H id with
    | some (.row false _ items) => bif fits items sz 0 len then .sl (piece items 0 len) else .dead
    | some (.frz _ items) => bif fits items sz 0 len then .sl (piece items 0 len) else .dead
    | _ => .dead
  | a => a
def AV.view (H : Hp) : AV → AV
  | .agg cs => .agg (cs.map (AV.view1 H))
  | a => a.view1 H
def AV.viewR (H : Hp) : AV → AV
  | .tup cs => .tup (cs.map (AV.view H))
  | a => a.view H
def apick (b : Bool) (x y : AV) : AV :=
  match x, y with
  | .lit (.bool p), .lit (.bool q) => .lit (.bool (bif b then p else q))
  | x, y => bif b then x else y
def readA (H : Hp) : AV → Option (List AV)
  | .ref cs => some cs
  | .ptr id off => match H id with
    | some (.cells cs) => some (cs.drop off)
    | _ => none
  | .el id sz k off => match H id with
    | some (.row _ _ items) => match items[k]? with
      | some it => bif Nat.beq it.length sz then some (it.drop off) else none
      | none => none
    | _ => none
  | _ => none
def Tbl.fld (T : Tbl) (t f : Nat) : Option Nat := (lk? T.flds t).bind fun l => lk? l f
def onum (d : Int) : Option AV → Option Int | none => some d | some x => x.num?
def acutS (s : ByteArray) (l h : Int) : Option AV := if 0 ≤ l ∧ l ≤ h ∧ h ≤ s.size then some (.lit (.string (s.extract l.toNat h.toNat))) else none
def acutL (I : SlI) (items : List (List AV)) (l h : Int) : Option AV := if (0 ≤ l ∧ l ≤ h ∧ h ≤ items.length) ∧ ∀ it ∈ items, it.length = I.size then some (.sl ((items.take h.toNat).drop l.toNat)) else none
def acutR (I : SlI) (id sz ko len : Nat) (l h : Int) : Option AV := if (0 ≤ l ∧ l ≤ h ∧ h ≤ len) ∧ sz = I.size then some (.rw id sz (ko + l.toNat) (h - l).toNat) else none
/-- A piece of an array. -/
def acutA (id off len : Nat) (l h : Int) : Option AV := if 0 ≤ l ∧ l ≤ h ∧ h ≤ len then some (.ra id (off + l.toNat) (h - l).toNat) else none
/-- A row's beginning, up to its room. -/
def acutC (I : SlI) (id sz c : Nat) (h : Int) : Option AV := if (0 ≤ h ∧ h ≤ c) ∧ sz = I.size then some (.rc id sz h.toNat c) else none
def acut (T : Tbl) (t : Nat) (x : AV) (lo hi : Option AV) : Option AV :=
  match x with
  | .lit (.string s) => bif T.strs.elem t then (onum 0 lo).bind fun l => (onum s.size hi).bind fun h => acutS s l h else none
  | .lit v => bif isNilV v then (lk? T.sls t).bind fun I => (onum 0 lo).bind fun l => (onum 0 hi).bind fun h => acutL I [] l h else none
  | .sl items => (lk? T.sls t).bind fun I => (onum 0 lo).bind fun l => (onum items.length hi).bind fun h => acutL I items l h
  | .rw id sz ko len => (lk? T.sls t).bind fun I => (onum 0 lo).bind fun l => (onum len hi).bind fun h => acutR I id sz ko len l h
  | .ptr id off => match lk? T.arrs t with
    | some (len, _, sz) => bif Nat.beq sz 1 && Nat.ble len 9223372036854775807 then (onum 0 lo).bind fun l => (onum len hi).bind fun h => acutA id off len l h else none
    | none => none
  | .rc id sz len c => match lo, hi with
    | none, some y => (lk? T.sls t).bind fun I => y.num?.bind fun h => acutC I id sz c h
    | _, _ => none
  | .ra id off len => (lk? T.sls t).bind fun I => bif Nat.beq I.size 1 then (onum 0 lo).bind fun l => (onum len hi).bind fun h => acutA id off len l h else none
  | _ => none
/-- The address of a slice's thing, of an array's. -/
def aidx (T : Tbl) (H : Hp) (t : Nat) (x : AV) (n : Int) : Option AV :=
  if 0 ≤ n then (match lk? T.arrs t with
    | some (len, _, sz) => if n < len then (match x with
      | .ptr id off => some (.ptr id (off + n.toNat * sz))
      | .ref cs => some (.ref (cs.drop (n.toNat * sz)))
      | _ => none) else none
    | none => match lk? T.sls t with
      | some I => match x with
        | .ra id off len => if n < len ∧ I.size = 1 then some (.ptr id (off + n.toNat)) else none
        | .rc id sz len _ => match H id with
          | some (.row true _ items) => if n < len ∧ sz = I.size then (bif Nat.blt n.toNat items.length then some (.el id sz n.toNat 0) else some (.ec id sz n.toNat)) else none
          | _ => match x.its? H with
            | some items => match items[n.toNat]? with
              | some it => if it.length = I.size then some (.ref it) else none
              | none => none
            | none => none
        | .rw id sz ko len => match H id with
          | some (.row true _ _) => if n < len ∧ sz = I.size then some (.el id sz (ko + n.toNat) 0) else none
          | _ => match x.its? H with
            | some items => match items[n.toNat]? with
              | some it => if it.length = I.size then some (.ref it) else none
              | none => none
            | none => none
        | x => match x.its? H with
          | some items => match items[n.toNat]? with
            | some it => if it.length = I.size then some (.ref it) else none
            | none => none
          | none => none
      | none => none) else none
def alen (T : Tbl) (H : Hp) (t : Nat) (x : AV) : Option Int := match x with
  | .lit (.string s) => bif T.strs.elem t then some (s.size : Int) else none
  | .mp id => match lk? T.maps t, H id with
    | some _, some (.map es _) => some (es.length : Int)
    | _, _ => none
  | .rw _ _ _ len => (lk? T.sls t).map fun _ => (len : Int)
  | .ra _ _ len => (lk? T.sls t).map fun _ => (len : Int)
  | .rc _ _ len _ => (lk? T.sls t).map fun _ => (len : Int)
  | x => (lk? T.sls t).bind fun _ => (x.its? H).map fun l => (l.length : Int)
/-- A slice's room. -/
def acap (T : Tbl) (t : Nat) (x : AV) : Option Int := match x with
  | .rc _ _ _ c => (lk? T.sls t).map fun _ => (c : Int)
  | _ => none
/-- Are two keys the same? -/
def keyCell : AV → AV → Option Bool
  | .lit (.int k a), .lit (.int k' b) => if k = k' then some (a == b) else none
  | .lit (.string a), .lit (.string b) => some (a == b)
  | .lit (.bool a), .lit (.bool b) => some (a == b)
  | _, _ => none
def keyCells : List AV → List AV → Option Bool
  | [], [] => some true
  | a :: as, b :: bs => match keyCell a b, keyCells as bs with
    | some x, some y => some (x && y)
    | _, _ => none
  | _, _ => none
def keyEq : AV → AV → Option Bool
  | .agg as, .agg bs => keyCells as bs
  | a, b => keyCell a b
/-- An entry's place. -/
def mfind (k : AV) : List ME → Nat → Option (Option (Nat × AV))
  | [], _ => some none
  | e :: es, i => match keyEq k e.key with
    | some true => some (some (i, e.val))
    | some false => mfind k es (i + 1)
    | none => none
def kmatchA : List CK → List AV → Bool
  | [], [] => true
  | c :: cs, .lit v :: vs => ckIs c v && kmatchA cs vs
  | _, _ => false
/-- Is it a variable of the walk's own? -/
def isVar : Option AO → Bool
  | some (.cells _) => true
  | _ => false
/-- Is it the address, of variables of the walk's own? -/
def keyPtr (H : Hp) (i off : Nat) : AV → Option Bool
  | .ptr j p => bif isVar (H j) then some (Nat.beq i j && Nat.beq off p) else none
  | _ => none
def gfind (q : AV → Option Bool) : List ME → Nat → Option (Option (Nat × AV))
  | [], _ => some none
  | e :: es, i => match q e.key with
    | some true => some (some (i, e.val))
    | some false => gfind q es (i + 1)
    | none => none
theorem mfind_g (k : AV) : ∀ (es : List ME) (i : Nat), mfind k es i = gfind (keyEq k) es i
  | [], _ => rfl
  | e :: es, i => by simp only [mfind, gfind, mfind_g k es (i + 1)]
/-- An entry's place, where keys may be addresses. -/
def kfind (H : Hp) (k : AV) (es : List ME) : Option (Option (Nat × AV)) := match k with
  | .ptr id off => gfind (keyPtr H id off) es 0
  | k => mfind k es 0
def keyQ (H : Hp) (k : AV) : AV → Option Bool := match k with
  | .ptr id off => keyPtr H id off
  | k => keyEq k
theorem kfind_g (H : Hp) (k : AV) (es : List ME) : kfind H k es = gfind (keyQ H k) es 0 := by
  cases k <;> first | rfl | exact mfind_g _ es 0
def keyKind (T : Tbl) (t : Nat) (k : AV) : Bool := match k with
  | .lit (.int _ _) => (lk? T.ints t).isSome
  | .lit (.string _) => T.strs.elem t
  | .lit (.bool _) => T.bools.elem t
  | .agg cs => match lk? T.keys t with
    | some ks => kmatchA ks cs
    | none => false
  | _ => false
def keyKindH (T : Tbl) (H : Hp) (t : Nat) (k : AV) : Bool := match k with
  | .ptr id _ => T.pks.elem t && isVar (H id)
  | k => keyKind T t k
def alook (T : Tbl) (H : Hp) (t : Nat) (x k : AV) (ok : Bool) : Option AV :=
  match lk? T.maps t with
  | some I => bif keyKindH T H I.key k then (match (match x with
      | .mp id => match H id with
        | some (.map es _) => kfind H k es
        | _ => none
      | .lit (.map none) => some none
      | _ => none) with
    | some (some (_, v)) => some (bif ok then .tup [v, .lit (.bool true)] else v)
    | some none => some (bif ok then .tup [.lit I.zero, .lit (.bool false)] else .lit I.zero)
    | none => none) else none
  | none => none
/-- The entry at which a walk stands. -/
def aentry (H : Hp) (x : AV) : Option AV := match x with
  | .ptr id 0 => match H id with
    | some (.iter (some m) _ seen last) => match H m with
      | some (.map es clock) => match seen.getLast? with
        | some b => if clock = last then (match es.find? (fun e => e.born == b) with
          | some e => some (.tup [e.key, e.val])
          | none => none) else none
        | none => none
      | _ => none
    | _ => none
  | _ => none
def abuild (pl : List (Nat × Nat)) (ρ : Operand → AV) : List (Nat × Operand) → List AV → Option (List AV)
  | [], cs => some cs
  | (i, x) :: r, cs => match pl[i]? with
    | some (off, size) => if ((ρ x).cells.length = size ∧ off + size ≤ cs.length) ∧ (ρ x).cells.all AV.isOne = true then abuild pl ρ r (setR cs off (ρ x).cells) else none
    | none => none
/-- Bytes' numbers. -/
def bytesOf : List (List AV) → Option (List Int)
  | [] => some []
  | [.lit (.int .u8 n)] :: r => match bytesOf r with
    | some l => some (n :: l)
    | none => none
  | _ :: _ => none
def aindexS (s : ByteArray) (n : Int) : Option AV := if 0 ≤ n then (match s.data.toList[n.toNat]? with | some b => some (.lit (.int .u8 b.toNat)) | none => none) else none
/-- An array value's thing. -/
def aindexA (T : Tbl) (cs : List AV) (len e sz : Nat) (n : Int) : Option AV := if 0 ≤ n ∧ n < len ∧ len * sz = cs.length then (match lk? T.szs e with
    | some none => cs[n.toNat * sz]?
    | some (some m) => if m = sz then some (.agg ((cs.drop (n.toNat * sz)).take sz)) else none
    | none => none) else none
def nonNil : AV → Bool
  | .ref _ | .ptr .. | .el .. | .fn .. => true
  | _ => false
def litArgs (ρ : Operand → AV) (l : Array Operand) : List AV := l.toList.map ρ
/-- An operation's value, where it only reads. -/
def fval (T : Tbl) (H : Hp) (op : Op) (ρ : Operand → AV) : Option AV :=
  match op with
  | .move x => some (ρ x)
  | .assign x => some (ρ x)
  | .pick c x y => match (ρ c).bool? with
    | some b => some (apick b (ρ x) (ρ y))
    | none => none
  | .binOp op t x y _ => match binv T op t (ρ x) (ρ y) with
    | some r => some (.lit r)
    | none => none
  | .unOp op _ x => match (ρ x).lit? with
    | some u => match aun op u with
      | some r => some (.lit r)
      | none => none
    | none => none
  | .load t x => match lk? T.szs t, readA H (ρ x) with
    | some none, some (c :: _) => some c
    | some (some n), some cs => if n ≤ cs.length then some (.agg (cs.take n)) else none
    | _, _ => none
  | .fieldAddr t x f => match T.fld t f, ρ x with
    | some off, .ref cs => some (.ref (cs.drop off))
    | some off, .ptr id k => some (.ptr id (k + off))
    | some off, .el id sz i k => some (.el id sz i (k + off))
    | _, _ => none
  | .indexAddr t x i => match (ρ i).int? with
    | some (_, n) => aidx T H t (ρ x) n
    | none => none
  | .index t x i => match ρ x, (ρ i).int? with
    | .lit (.string s), some (_, n) => bif T.strs.elem t then aindexS s n else none
    | .agg cs, some (_, n) => match lk? T.arrs t with
      | some (len, e, sz) => aindexA T cs len e sz n
      | none => none
    | _, _ => none
  | .lookup t x k ok => alook T H t (ρ x) (ρ k) ok
  | .build t parts => match lk? T.zeros t, lk? T.fszs t with
    | some z, some pl => if (z.cells.toList.map AV.lit).all AV.isOne = true then (match abuild pl ρ parts.toList (z.cells.toList.map .lit) with
      | some cs => some (.agg cs)
      | none => none) else none
    | _, _ => none
  | .extract x i => match ρ x with
    | .tup cs => cs[i]?
    | _ => none
  | .slice t x lo hi none => acut T t (ρ x) (lo.map ρ) (hi.map ρ)
  | .convert t0 t x => match lk? T.ints t0, lk? T.ints t, (ρ x).int? with
    | some _, some k, some (_, n) => some (.lit (.int k (k.wrap n)))
    | _, _, _ => bif T.byts.elem t0 && T.strs.elem t then (match (ρ x).its? H with
      | some items => match bytesOf items with
        | some l => some (.lit (.string (strOfNums l)))
        | none => none
      | none => none) else none
  | .nilCheck x => bif nonNil (ρ x) then some (ρ x) else none
  | .makeFunc (.func f) first caps => match first.toList with
    | [] => some (.fn f (litArgs ρ caps))
    | _ => none
  | .entry x => aentry H (ρ x)
  | .call c => match c.callee, c.args.toList, c.argTypes.toList with
    | .builtin .len, [x], t :: _ => match alen T H t (ρ x) with
      | some n => some (.lit (.int .i64 n))
      | none => none
    | .builtin .cap, [x], t :: _ => match acap T t (ρ x) with
      | some n => some (.lit (.int .i64 n))
      | none => none
    | .builtin .min, [x, y], _ => match (ρ x).int?, (ρ y).int? with
      | some (k, m), some (_, n) => some (.lit (.int k (if n < m then n else m)))
      | _, _ => match (ρ x).str?, (ρ y).str? with
        | some a, some b => some (.lit (.string (smin a b)))
        | _, _ => none
    | .builtin .max, [x, y], _ => match (ρ x).int?, (ρ y).int? with
      | some (k, m), some (_, n) => some (.lit (.int k (if n > m then n else m)))
      | _, _ => match (ρ x).str?, (ρ y).str? with
        | some a, some b => some (.lit (.string (smax a b)))
        | _, _ => none
    | _, _, _ => none
  | _ => none
end Go.Proofs.Ytheanmfdfoefoaa.Hv
set_option linter.unusedVariables false
set_option linter.unusedSimpArgs false
namespace Go.Proofs.Ytheanmfdfoefoaa.Hv
open Go Go.RowKit

section
variable {P : Program} {T : Tbl} {N : Nat} {F : Nat → Nat → Prop} {w0 w w' : World} {gb0 gb gb' : Gb} {H0 H H' : Hp} {s : AS} {a : Act} {n n' : Nat} {W : Nat → Nat → Prop} {o : Oper}
/-- A slice whose things are these, now. -/
def Reads (w : World) (W : Nat → Nat → Prop) (gb : Gb) (items : List (List AV)) (v : Value) : Prop :=
  ∃ (sz : Nat) (A : Option Addr) (c b off : Nat) (val : Nat → Value), (∀ it ∈ items, it.length = sz) ∧ v = .slice A items.length c ∧ items.length ≤ c ∧ c ≤ maxLen ∧ (items ≠ [] → A = some ⟨b, off, none⟩) ∧
    ∀ (j : Nat) (x : AV), items.flatten[j]? = some x → w.cell? ⟨b, off + j, none⟩ = some (val j) ∧ (val j).oneCell' = true ∧ Rep w W gb x (val j)
theorem Rep.reads {items : List (List AV)} {v : Value} (h : Rep w W gb (.sl items) v) : Reads w W gb items v := by
  cases h with
  | sl _ sz A c b off val hi hc hm ha hcell hF h1 hr => exact ⟨sz, A, c, b, off, val, hi, rfl, hc, hm, ha, fun j x hx => ⟨hcell j x hx, h1 j x hx, hr j x hx⟩⟩
theorem rep_sl_nil {n c : Nat} {A : Option Addr} (hn : n = 0) (hc : c ≤ maxLen) : Rep w W gb (.sl []) (.slice A n c) := by
  subst hn
  exact Rep.sl [] 0 A c 0 0 (fun _ => undef) (by simp) (by simp) hc (by simp) (by simp) (by simp) (by simp) (by simp)
theorem flatten_drop {items : List (List AV)} {sz ko j : Nat} {x : AV} (hi : ∀ it ∈ items, it.length = sz) (hx : (items.drop ko).flatten[j]? = some x) : items.flatten[ko * sz + j]? = some x := by
  induction items generalizing ko with
  | nil => simp at hx
  | cons i its ih =>
    cases ko with
    | zero => simpa using hx
    | succ l =>
      have h0 := hi i (by simp)
      rw [List.flatten_cons, List.getElem?_append_right (by rw [h0, Nat.succ_mul]; omega), h0, show (l + 1) * sz + j - sz = l * sz + j from by rw [Nat.succ_mul]; omega]
      exact ih (fun it hit => hi it (by simp [hit])) (by simpa using hx)
theorem flatten_take {items : List (List AV)} {len j : Nat} {x : AV} (hx : (items.take len).flatten[j]? = some x) : items.flatten[j]? = some x := by
  have h2 : items.flatten = (items.take len).flatten ++ (items.drop len).flatten := by rw [← List.flatten_append, List.take_append_drop]
  rw [h2, List.getElem?_append_left (List.getElem?_eq_some_iff.1 hx).1]
  exact hx
theorem flatten_piece {items : List (List AV)} {sz szI ko len j : Nat} {x : AV} (hi : ∀ it ∈ items, it.length = szI) (hf : fits items sz ko len = true) (hx : (piece items ko len).flatten[j]? = some x) : items.flatten[ko * sz + j]? = some x := by
  unfold piece at hx
  unfold fits at hf
  cases hk : Nat.beq ko 0 with
  | true =>
    rw [hk] at hx
    have := Nat.eq_of_beq_eq_true hk
    subst this
    simpa using flatten_take hx
  | false =>
    rw [hk] at hx hf
    simp only [cond_false, Bool.and_eq_true] at hx hf
    have h1 := flatten_drop (sz := szI) (ko := ko) hi (flatten_take hx)
    have h2 : szI = sz := by
      have h3 := Nat.eq_of_beq_eq_true hf.1
      cases items with
      | nil => simp at hx
      | cons i its => rw [← hi i (by simp), ← h3]; rfl
    rwa [h2] at h1
theorem piece_len {items : List (List AV)} {sz ko len : Nat} (hf : fits items sz ko len = true) : (piece items ko len).length = len := by
  unfold piece
  unfold fits at hf
  cases hk : Nat.beq ko 0 with
  | true =>
    rw [hk] at hf
    have := Nat.le_of_ble_eq_true hf
    simp only [cond_true, List.length_take]; omega
  | false =>
    rw [hk] at hf
    simp only [cond_false, Bool.and_eq_true] at hf
    have := Nat.le_of_ble_eq_true hf.2
    simp only [cond_false, List.length_take, List.length_drop]; omega
theorem piece_mem {items : List (List AV)} {ko len : Nat} {it : List AV} (h : it ∈ piece items ko len) : it ∈ items := by
  unfold piece at h
  cases hk : Nat.beq ko 0 <;> rw [hk] at h
  · exact List.mem_of_mem_drop (List.mem_of_mem_take h)
  · exact List.mem_of_mem_take h
theorem piece_all {items : List (List AV)} : piece items 0 items.length = items := by
  unfold piece; simp
/-- A row's cells, of a live row. -/
theorem HeapOk.rowAt {id : Nat} {e : TypeId} {items : List (List AV)} {oo : AO} (h : HeapOk P w F gb H n) (ho : H id = some oo) (hk : (∃ m, oo = .row m e items) ∨ oo = .frz e items) :
    (∀ it ∈ items, it.length = szOf P e) ∧ ((gb id = none ∧ items = []) ∨ ∃ g size cur fr, gb id = some (g, size) ∧ w.heap[g]? = some (.cells cur e fr) ∧ Cold size fr ∧ cur.size = size ∧ items.flatten.length ≤ size ∧ RepL w (Wr F gb H) gb items.flatten (cur.toList.take items.flatten.length) ∧
      (oo = .frz e items → ∀ o, o < items.flatten.length → ¬ Wr F gb H g o)) := by
  rcases h.live id oo ho with ⟨g, size, hg, hr⟩ | ⟨hg, m, e', he⟩
  · rcases hk with ⟨m, rfl⟩ | rfl
    · obtain ⟨h0, cur, fr, h1, hf, h2, h3, h4⟩ := hr
      exact ⟨h0, .inr ⟨g, size, cur, fr, hg, h1, hf, h2, h3, h4, fun h => by cases h⟩⟩
    · obtain ⟨h0, cur, fr, h1, hf, h2, h3, h4, h5⟩ := hr
      exact ⟨h0, .inr ⟨g, size, cur, fr, hg, h1, hf, h2, h3, h4, fun _ => h5⟩⟩
  · rcases hk with ⟨m', rfl⟩ | rfl
    · injection he with _ _ hi
      subst hi
      exact ⟨by simp, .inl ⟨hg, rfl⟩⟩
    · cases he
theorem cell_of {cur : Array Value} {e : TypeId} {fr : Nat × Nat} {g k : Nat} {u : Value} (h1 : w.heap[g]? = some (.cells cur e fr)) (hk : cur.toList[k]? = some u) : w.cell? ⟨g, k, none⟩ = some u := by
  simp only [World.cell?, h1]
  simpa using hk
theorem row_cell {items : List (List AV)} {cur : Array Value} {e : TypeId} {fr : Nat × Nat} {g k : Nat} {x : AV} (h1 : w.heap[g]? = some (.cells cur e fr)) (h4 : RepL w W gb items.flatten (cur.toList.take items.flatten.length)) (hx : items.flatten[k]? = some x) :
    ∃ u, w.cell? ⟨g, k, none⟩ = some u ∧ u.oneCell' = true ∧ Rep w W gb x u := by
  have hlt := (List.getElem?_eq_some_iff.1 hx).1
  have hl := h4.len
  obtain ⟨u, hu⟩ : ∃ u, (cur.toList.take items.flatten.length)[k]? = some u := ⟨_, List.getElem?_eq_getElem (by omega)⟩
  refine ⟨u, cell_of h1 ?_, h4.one u (List.mem_of_getElem? hu), h4.rep k x u hx hu⟩
  rwa [List.getElem?_take_of_lt hlt] at hu
/-- What a slice's things are by the heap, it reads. -/
theorem rep_its (h : HeapOk P w F gb H n) {x : AV} {v : Value} {items : List (List AV)} (hx : Rep w (Wr F gb H) gb x v) (hi : x.its? H = some items) : Reads w (Wr F gb H) gb items v := by
  have rowcase : ∀ {id sz ko len : Nat} {e : TypeId} {its : List (List AV)} {oo : AO}, Rep w (Wr F gb H) gb (.rw id sz ko len) v → H id = some oo → ((∃ m, oo = .row m e its) ∨ oo = .frz e its) → fits its sz ko len = true → items = piece its ko len → Reads w (Wr F gb H) gb items v := by
    intro id sz ko len e its oo hx ho hk hf hp
    subst hp
    obtain ⟨h0, hb⟩ := h.rowAt ho hk
    have hpl := piece_len hf
    cases hx with
    | rw _ _ _ _ g size c hg hs hc hm =>
      rcases hb with ⟨hn, _⟩ | ⟨g', size', cur, fr, hg', h1, _, h2, h3, h4, _⟩
      · rw [hn] at hg; cases hg
      · rw [hg'] at hg
        injection hg with hg
        injection hg with e1 e2
        subst e1 e2
        refine ⟨szOf P e, some ⟨g', ko * sz, none⟩, c, g', ko * sz, fun j => (w.cell? ⟨g', ko * sz + j, none⟩).getD undef, fun it hit => h0 it (piece_mem hit), by rw [hpl], by rw [hpl]; exact hc, hm, fun _ => rfl, fun j x hx => ?_⟩
        obtain ⟨u, hu, h1', hr⟩ := row_cell h1 h4 (flatten_piece h0 hf hx)
        simp only [hu, Option.getD_some]
        exact ⟨trivial, h1', hr⟩
    | rwz =>
      have h0' : piece its ko 0 = [] := List.eq_nil_of_length_eq_zero hpl
      rw [h0']
      exact (rep_sl_nil rfl (by simp)).reads
    | rwn =>
      have h0' : piece its 0 0 = [] := List.eq_nil_of_length_eq_zero hpl
      rw [h0']
      exact (rep_sl_nil rfl (by simp)).reads
  unfold AV.its? at hi
  split at hi
  · simp only [Option.some.injEq] at hi; subst hi; exact hx.reads
  · split at hi
    · rename_i m e its ho
      cases hf : fits its _ _ _ with
      | true => rw [hf] at hi; simp only [cond_true, Option.some.injEq] at hi; exact rowcase hx ho (.inl ⟨m, rfl⟩) hf hi.symm
      | false => rw [hf] at hi; cases hi
    · rename_i e its ho
      cases hf : fits its _ _ _ with
      | true => rw [hf] at hi; simp only [cond_true, Option.some.injEq] at hi; exact rowcase hx ho (.inr rfl) hf hi.symm
      | false => rw [hf] at hi; cases hi
    · cases hi
  · rename_i id off len
    split at hi
    · rename_i cs ho
      cases hb : Nat.ble (off + len) cs.length with
      | false => rw [hb] at hi; cases hi
      | true =>
        rw [hb] at hi
        simp only [cond_true, Option.some.injEq] at hi
        subst hi
        have hle := Nat.le_of_ble_eq_true hb
        have hpl : (((cs.drop off).take len).map fun c => [c]).length = len := by simp only [List.length_map, List.length_take, List.length_drop]; omega
        have hfl : (((cs.drop off).take len).map fun c => [c]).flatten = (cs.drop off).take len := by
          generalize (cs.drop off).take len = l
          induction l with
          | nil => rfl
          | cons a l ih => rw [List.map_cons, List.flatten_cons, ih]; rfl
        cases hx with
        | ra _ _ _ c g size hg hc hm =>
          rcases h.live id _ ho with ⟨g', size', hg', cur, e, fr, h1, hf, h2, h3⟩ | ⟨_, m, e, he⟩
          · rw [hg] at hg'
            injection hg' with hg'
            injection hg' with e1 e2
            subst e1 e2
            refine ⟨1, some ⟨g, off, none⟩, c, g, off, fun j => (w.cell? ⟨g, off + j, none⟩).getD undef, fun it hit => by obtain ⟨x, _, rfl⟩ := List.mem_map.1 hit; rfl, by rw [hpl], by rw [hpl]; exact hc, hm, fun _ => rfl, fun j x hx => ?_⟩
            rw [hfl] at hx
            have hjl := (List.getElem?_eq_some_iff.1 hx).1
            rw [List.length_take, List.length_drop] at hjl
            rw [List.getElem?_take_of_lt (by omega), List.getElem?_drop] at hx
            have hlen := h3.len
            obtain ⟨u, hu⟩ : ∃ u, cur.toList[off + j]? = some u := ⟨_, List.getElem?_eq_getElem (by omega)⟩
            have hcell := cell_of h1 hu
            simp only [hcell, Option.getD_some]
            exact ⟨trivial, h3.one u (List.mem_of_getElem? hu), h3.rep _ x u hx hu⟩
          · cases he
        | raz =>
          rw [List.take_zero]
          exact (rep_sl_nil rfl (by simp)).reads
    · cases hi
  · split at hi
    · rename_i m e its ho
      cases hf : fits its _ _ _ with
      | true => rw [hf] at hi; simp only [cond_true, Option.some.injEq] at hi; exact rowcase hx.low ho (.inl ⟨m, rfl⟩) hf hi.symm
      | false => rw [hf] at hi; cases hi
    · rename_i e its ho
      cases hf : fits its _ _ _ with
      | true => rw [hf] at hi; simp only [cond_true, Option.some.injEq] at hi; exact rowcase hx.low ho (.inr rfl) hf hi.symm
      | false => rw [hf] at hi; cases hi
    · cases hi
  · rename_i u
    have hu := rep_lit hx
    subst hu
    cases hn : isNilV v with
    | true =>
      rw [hn] at hi
      simp only [cond_true, Option.some.injEq] at hi
      subst hi
      unfold isNilV at hn
      split at hn
      · exact (rep_sl_nil rfl (by simp)).reads
      · cases hn
    | false => rw [hn] at hi; cases hi
  · cases hi
/-- A live row's prefix is nobody's to write, where the row may only be appended to. -/
theorem HeapOk.tip_cold {id g size : Nat} {e : TypeId} {items : List (List AV)} (h : HeapOk P w F gb H n) (ho : H id = some (.row false e items)) (hg : gb id = some (g, size)) {o : Nat} (hlt : o < items.flatten.length) : ¬ Wr F gb H g o := by
  rintro (hf | ⟨j, s, hj, hw⟩)
  · exact h.FX g o hf ⟨id, size, hg, by rw [ho]; trivial⟩
  · have := h.one j id g s size hj hg (wrO_exO hw) (by rw [ho]; trivial)
    subst this
    rw [ho] at hw
    exact absurd hw (Nat.not_le.2 hlt)
end
end Go.Proofs.Ytheanmfdfoefoaa.Hv
set_option linter.unusedVariables false
set_option linter.unusedSimpArgs false
namespace Go.Proofs.Ytheanmfdfoefoaa.Hv
open Go Go.RowKit

section
variable {P : Program} {T : Tbl} {N : Nat} {F : Nat → Nat → Prop} {w0 w w' : World} {gb0 gb gb' : Gb} {H0 H H' : Hp} {s : AS} {a : Act} {n n' : Nat} {W : Nat → Nat → Prop} {o : Oper}
theorem rep_pick {b : Bool} {x y : AV} {u v : Value} (hx : Rep w W gb x u) (hy : Rep w W gb y v) : Rep w W gb (apick b x y) (if b then u else v) := by
  have key : Rep w W gb (bif b then x else y) (if b then u else v) := by cases b <;> assumption
  unfold apick
  split
  · rename_i p q
    rw [rep_lit hx, rep_lit hy]
    cases b <;> exact Rep.lit _
  · exact key
/-- What is read at an address. -/
theorem rep_read (h : HeapOk P w F gb H n) {x : AV} {v : Value} {cs : List AV} (hx : Rep w (Wr F gb H) gb x v) (hc : readA H x = some cs) :
    ∃ b off, v = .pointer (some ⟨b, off, none⟩) ∧ ∃ val : Nat → Value, ∀ (j : Nat) (c : AV), cs[j]? = some c → w.cell? ⟨b, off + j, none⟩ = some (val j) ∧ (val j).oneCell' = true ∧ Rep w (Wr F gb H) gb c (val j) := by
  unfold readA at hc
  split at hc
  · simp only [Option.some.injEq] at hc
    subst hc
    cases hx with
    | ref _ b off val hcell hF h1 hr => exact ⟨b, off, rfl, val, fun j c hc => ⟨hcell j c hc, h1 j c hc, hr j c hc⟩⟩
  · split at hc
    · rename_i id off _ cs' ho
      simp only [Option.some.injEq] at hc
      subst hc
      cases hx with
      | ptr _ _ g size hg =>
        rcases h.live id _ ho with ⟨g', size', hg', cur, e, fr, h1, _, h2, h3⟩ | ⟨hg', m, e, he⟩
        · rw [hg] at hg'
          injection hg' with hg'
          injection hg' with e1 e2
          subst e1 e2
          refine ⟨g, off, rfl, fun j => (w.cell? ⟨g, off + j, none⟩).getD undef, fun j c hj => ?_⟩
          rw [List.getElem?_drop] at hj
          have hlt := (List.getElem?_eq_some_iff.1 hj).1
          obtain ⟨u, hu⟩ : ∃ u, cur.toList[off + j]? = some u := ⟨_, List.getElem?_eq_getElem (by have := h3.len; omega)⟩
          have hc := cell_of h1 hu
          simp only [hc, Option.getD_some]
          exact ⟨trivial, h3.one u (List.mem_of_getElem? hu), h3.rep _ c u hj hu⟩
        · cases he
    · cases hc
  · split at hc
    · rename_i id sz k off _ m e items ho
      split at hc
      · rename_i it hit
        cases hb : Nat.beq it.length sz with
        | false => rw [hb] at hc; cases hc
        | true =>
          rw [hb] at hc
          simp only [cond_true, Option.some.injEq] at hc
          subst hc
          have hsz := Nat.eq_of_beq_eq_true hb
          obtain ⟨h0, hbk⟩ := h.rowAt ho (.inl ⟨m, rfl⟩)
          have hP : szOf P e = sz := by rw [← h0 it (List.mem_of_getElem? hit)]; exact hsz
          rw [hP] at h0
          cases hx with
          | el _ _ _ _ g size hg =>
            rcases hbk with ⟨hn, _⟩ | ⟨g', size', cur, fr, hg', h1, _, h2, h3, h4, _⟩
            · rw [hn] at hg; cases hg
            · rw [hg] at hg'
              injection hg' with hg'
              injection hg' with e1 e2
              subst e1 e2
              refine ⟨g, k * sz + off, rfl, fun j => (w.cell? ⟨g, k * sz + off + j, none⟩).getD undef, fun j c hj => ?_⟩
              rw [List.getElem?_drop] at hj
              obtain ⟨u, hu, h5, h6⟩ := row_cell h1 h4 (flatten_at h0 hit hj)
              rw [← Nat.add_assoc] at hu
              simp only [hu, Option.getD_some]
              exact ⟨trivial, h5, h6⟩
      · cases hc
    · cases hc
  · cases hc
theorem run_size_some {t n : Nat} (h : (P.info? t).map (·.size) = some n) (w : World) : (sizeOf t).run P w = .ok n w := by
  rw [Option.map_eq_some_iff] at h
  obtain ⟨i, hi, rfl⟩ := h
  simp [sizeOf, typeInfo, hi]
theorem run_isAgg_some {t : Nat} {b : Bool} (h : (P.underlying t).map isAggD = some b) (w : World) : (isAgg t).run P w = .ok b w := by
  rw [Option.map_eq_some_iff] at h
  obtain ⟨D, hD, rfl⟩ := h
  unfold isAgg
  rw [Sem.run_bind, run_underlying hD]
  cases D <;> rfl
/-- What is read at an address. -/
def rdAt (T : Tbl) (H : Hp) (t : Nat) (x : AV) : Option AV := match lk? T.szs t, readA H x with
    | some none, some (c :: _) => some c
    | some (some n), some cs => if n ≤ cs.length then some (.agg (cs.take n)) else none
    | _, _ => none
theorem run_rdAt {t : TypeId} {x v : AV} {vx : Value} (hT : T.Ok P) (h : rdAt T H t x = some v) (hok : HeapOk P w F gb H n) (hx : Rep w (Wr F gb H) gb x vx) : ∃ A u, vx = .pointer (some A) ∧ (loadVar t A).run P w = .ok u w ∧ Rep w (Wr F gb H) gb v u := by
  unfold rdAt at h
  split at h
  · rename_i c cs hz hcs
    simp only [Option.some.injEq] at h
    subst h
    obtain ⟨b, off, hv, val, hval⟩ := rep_read hok hx hcs
    obtain ⟨h1, h2⟩ := hT.szs _ (lk?_mem hz)
    obtain ⟨e1, e2, e3⟩ := hval 0 c rfl
    refine ⟨_, val 0, hv, ?_, e3⟩
    rw [Nat.add_zero] at e1
    simp only [loadVar, Sem.run_bind, Sem.run_pure, Result.andThen_ok, run_isAgg_some h1, Bool.false_eq_true, if_false, run_load, e1]
  · rename_i n' cs hz hcs
    split at h
    · rename_i hn
      simp only [Option.some.injEq] at h
      subst h
      obtain ⟨b, off, hv, val, hval⟩ := rep_read hok hx hcs
      obtain ⟨h1, h2⟩ := hT.szs _ (lk?_mem hz)
      have hat : ∀ (j : Nat) (u : Value), ((List.range n').map val)[j]? = some u → j < n' ∧ u = val j := fun j u hu => by
        rw [List.getElem?_map, Option.map_eq_some_iff] at hu
        obtain ⟨k, hk, rfl⟩ := hu
        obtain ⟨hlt, e⟩ := List.getElem?_eq_some_iff.1 hk
        simp only [List.length_range] at hlt
        simp only [List.getElem_range] at e
        subst e
        exact ⟨hlt, rfl⟩
      have hcell : (loadCells ⟨b, off, none⟩ n').run P w = .ok ((List.range n').map val).toArray w := by
        have := run_loadCells_list (P := P) (w := w) ⟨b, off, none⟩ ((List.range n').map val) (fun j u hu => by
          obtain ⟨hj, rfl⟩ := hat j u hu
          rw [Addr.add_lit]
          exact (hval j _ (List.getElem?_eq_getElem (by omega))).1)
        simpa using this
      refine ⟨_, .agg ((List.range n').map val).toArray, hv, ?_, Rep.agg (cs.take n') ((List.range n').map val) (by simp; omega) (fun u hu => ?_) (fun j c u hc hu => ?_)⟩
      · simp only [loadVar, Sem.run_bind, Sem.run_pure, Result.andThen_ok, run_isAgg_some h1, if_true, run_size_some h2, hcell]
      · obtain ⟨j, hj⟩ := List.mem_iff_getElem?.1 hu
        obtain ⟨hjn, rfl⟩ := hat j u hj
        exact (hval j _ (List.getElem?_eq_getElem (by omega))).2.1
      · obtain ⟨hjn, rfl⟩ := hat j u hu
        rw [List.getElem?_take_of_lt hjn] at hc
        exact (hval j c hc).2.2
    · cases h
  · cases h
theorem v_load {t : TypeId} {x : Operand} {v : AV} (ho : o.op = .load t x) (hT : T.Ok P) (h : rdAt T s.heap t (s.eval x) = some v) (g : Good P N F w0 gb0 H0 s a w gb) : ∃ u, (execOp a.eval o).run P w = .ok (.value u) w ∧ Rep w (Wr F gb s.heap) gb v u := by
  obtain ⟨A, u, hv, hrun, hrep⟩ := run_rdAt hT h g.ok (g.eval x)
  refine ⟨u, ?_, hrep⟩
  unfold execOp
  simp only [ho, hv]
  simp only [Instr.loadAt, Instr.sureAddr, Sem.run_bind, Sem.run_pure, Result.andThen_ok, hrun]
theorem run_fieldAt_some {t f off : Nat} {b k : Nat} (h : fldOf P t f = some (off, false)) (w : World) : (Instr.fieldAt t (.pointer (some ⟨b, k, none⟩)) f).run P w = .ok (.pointer (some ⟨b, k + off, none⟩)) w := by
  unfold fldOf at h
  split at h
  · rename_i fs hfs
    split at h
    · rename_i fd hfd
      split at h
      · rename_i j hj
        simp only [Option.some.injEq, Prod.mk.injEq] at h
        obtain ⟨rfl, h2⟩ := h
        have h0 : j.size ≠ 0 := fun e => by rw [e] at h2; cases h2
        simp [Instr.fieldAt, run_underlying hfs, hfd, Instr.sureAddr, fieldPlace, sizeOf, typeInfo, hj, h0, Addr.add_lit]
      · cases h
    · cases h
  · cases h
theorem fld_ok {t f off : Nat} (hT : T.Ok P) (h : T.fld t f = some off) : fldOf P t f = some (off, false) := by
  unfold Tbl.fld at h
  rw [Option.bind_eq_some_iff] at h
  obtain ⟨l, hl, h⟩ := h
  exact hT.flds _ (lk?_mem hl) _ (lk?_mem h)
theorem rep_drop {cs : List AV} {b k off : Nat} (h : Rep w W gb (.ref cs) (.pointer (some ⟨b, k, none⟩))) : Rep w W gb (.ref (cs.drop off)) (.pointer (some ⟨b, k + off, none⟩)) := by
  cases h with
  | ref _ b k val hcell hF h1 hr =>
    refine Rep.ref _ b (k + off) (fun j => val (off + j)) (fun j x hx => ?_) (fun j x hx => ?_) (fun j x hx => ?_) (fun j x hx => ?_) <;> rw [List.getElem?_drop] at hx
    · rw [Nat.add_assoc]; exact hcell _ x hx
    · rw [Nat.add_assoc]; exact hF _ x hx
    · exact h1 _ x hx
    · exact hr _ x hx
theorem v_fld {t : TypeId} {x : Operand} {f : Nat} {v : AV} (ho : o.op = .fieldAddr t x f) (hT : T.Ok P) (h : (match T.fld t f, s.eval x with
    | some off, .ref cs => some (.ref (cs.drop off))
    | some off, .ptr id k => some (.ptr id (k + off))
    | some off, .el id sz i k => some (.el id sz i (k + off))
    | _, _ => none) = some v) (g : Good P N F w0 gb0 H0 s a w gb) : ∃ u, (execOp a.eval o).run P w = .ok (.value u) w ∧ Rep w (Wr F gb s.heap) gb v u := by
  have hx := g.eval x
  have key : ∀ (off b k : Nat), T.fld t f = some off → a.eval x = .pointer (some ⟨b, k, none⟩) → (execOp a.eval o).run P w = .ok (.value (.pointer (some ⟨b, k + off, none⟩))) w := by
    intro off b k hf hv
    unfold execOp
    simp only [ho, hv]
    rw [Sem.run_bind, run_fieldAt_some (fld_ok hT hf)]
    rfl
  split at h
  · rename_i off cs hf hc
    simp only [Option.some.injEq] at h; subst h
    rw [hc] at hx
    generalize hv : a.eval x = v at hx
    cases id hx with
    | ref _ b k val _ _ _ _ => exact ⟨_, key off b k hf hv, rep_drop hx⟩
  · rename_i off id k hf hc
    simp only [Option.some.injEq] at h; subst h
    rw [hc] at hx
    generalize hv : a.eval x = v at hx
    cases hx with
    | ptr _ _ b size hg => exact ⟨_, key off b k hf hv, Rep.ptr id (k + off) b size hg⟩
  · rename_i off id sz i k hf hc
    simp only [Option.some.injEq] at h; subst h
    rw [hc] at hx
    generalize hv : a.eval x = v at hx
    cases hx with
    | el _ _ _ _ b size hg =>
      refine ⟨_, key off b (i * sz + k) hf hv, ?_⟩
      rw [Nat.add_assoc]
      exact Rep.el id sz i (k + off) b size hg
  · cases h
theorem sls_ok {t : Nat} {I : SlI} (hT : T.Ok P) (h : lk? T.sls t = some I) : ElemT P t I.e I.zero I.size I.bytes := hT.sls _ (lk?_mem h)
/-- The address of a thing of a slice whose things may be read for ever. -/
theorem rep_at {items : List (List AV)} {v : Value} {k sz : Nat} {it : List AV} (h : Rep w W gb (.sl items) v) (hk : items[k]? = some it) (hs : it.length = sz) :
    ∃ b off c, v = .slice (some ⟨b, off, none⟩) items.length c ∧ Rep w W gb (.ref it) (.pointer (some ⟨b, off + k * sz, none⟩)) := by
  cases h with
  | sl _ sz' A c b off val hi hc hm ha hcell hF h1 hr =>
    have hne : items ≠ [] := fun e => by subst e; simp at hk
    have hsz : sz' = sz := by rw [← hs]; exact (hi it (List.mem_of_getElem? hk)).symm
    subst hsz
    have key : ∀ (j : Nat) (x : AV), it[j]? = some x → items.flatten[k * sz' + j]? = some x := fun j x hj => flatten_at hi hk hj
    refine ⟨b, off, c, by rw [ha hne], Rep.ref it b (off + k * sz') (fun j => val (k * sz' + j)) (fun j x hj => ?_) (fun j x hj => ?_) (fun j x hj => h1 _ x (key j x hj)) (fun j x hj => hr _ x (key j x hj))⟩
    · have := hcell _ x (key j x hj); rwa [← Nat.add_assoc] at this
    · have := hF _ x (key j x hj); rwa [← Nat.add_assoc] at this
/-- A slice whose things nobody writes may be read for ever. -/
theorem rep_sl (h : HeapOk P w F gb H n) {x : AV} {v : Value} {items : List (List AV)} (hx : Rep w (Wr F gb H) gb x v) (hi : x.its? H = some items) (hm : ∀ id sz ko len m e its, x = .rw id sz ko len → H id = some (.row m e its) → m = false) (hmc : ∀ id off len, x ≠ .ra id off len) (hm2 : ∀ id sz len c m e its, x = .rc id sz len c → H id = some (.row m e its) → m = false) : Rep w (Wr F gb H) gb (.sl items) v := by
  have rowcase : ∀ {id sz ko len : Nat} {e : TypeId} {its : List (List AV)} {oo : AO}, Rep w (Wr F gb H) gb (.rw id sz ko len) v → H id = some oo → (oo = .row false e its ∨ oo = .frz e its) → fits its sz ko len = true → items = piece its ko len → Rep w (Wr F gb H) gb (.sl items) v := by
    intro id sz ko len e its oo hx ho hk hf hp
    subst hp
    obtain ⟨h0, hb⟩ := h.rowAt (e := e) (items := its) ho (by rcases hk with rfl | rfl; exact .inl ⟨false, rfl⟩; exact .inr rfl)
    have hpl := piece_len hf
    cases hx with
    | rw _ _ _ _ g size c hg hs hc hm =>
      rcases hb with ⟨hn, _⟩ | ⟨g', size', cur, fr, hg', h1, _, h2, h3, h4, h5⟩
      · rw [hn] at hg; cases hg
      · rw [hg'] at hg
        injection hg with hg
        injection hg with e1 e2
        subst e1 e2
        have hcold : ∀ o, o < its.flatten.length → ¬ Wr F gb H g' o := fun o hlt => by
          rcases hk with rfl | rfl
          · exact h.tip_cold ho hg' hlt
          · exact h5 rfl o hlt
        have hrow : ∀ (j : Nat) (x : AV), (piece its ko len).flatten[j]? = some x → ∃ u, w.cell? ⟨g', ko * sz + j, none⟩ = some u ∧ u.oneCell' = true ∧ Rep w (Wr F gb H) gb x u ∧ ¬ Wr F gb H g' (ko * sz + j) := fun j x hx => by
          have hfl := flatten_piece h0 hf hx
          obtain ⟨u, hu, h1', hr⟩ := row_cell h1 h4 hfl
          exact ⟨u, hu, h1', hr, hcold _ (List.getElem?_eq_some_iff.1 hfl).1⟩
        have := Rep.sl (w := w) (W := Wr F gb H) (gb := gb) (piece its ko len) (szOf P e) (some ⟨g', ko * sz, none⟩) c g' (ko * sz) (fun j => (w.cell? ⟨g', ko * sz + j, none⟩).getD undef) (fun it hit => h0 it (piece_mem hit)) (by rw [hpl]; exact hc) hm (fun _ => rfl) (fun j x hx => ?_) (fun j x hx => ?_) (fun j x hx => ?_) (fun j x hx => ?_)
        · rw [hpl] at this; exact this
        · obtain ⟨u, hu, h1', hr, hw⟩ := hrow j x hx
          simp only [hu, Option.getD_some]
        · obtain ⟨u, hu, h1', hr, hw⟩ := hrow j x hx
          exact hw
        · obtain ⟨u, hu, h1', hr, hw⟩ := hrow j x hx
          simp only [hu, Option.getD_some]
          exact h1'
        · obtain ⟨u, hu, h1', hr, hw⟩ := hrow j x hx
          simp only [hu, Option.getD_some]
          exact hr
    | rwz =>
      have h0' : piece its ko 0 = [] := List.eq_nil_of_length_eq_zero hpl
      rw [h0']
      exact rep_sl_nil rfl (by simp)
    | rwn =>
      have h0' : piece its 0 0 = [] := List.eq_nil_of_length_eq_zero hpl
      rw [h0']
      exact rep_sl_nil rfl (by simp)
  unfold AV.its? at hi
  split at hi
  · simp only [Option.some.injEq] at hi; subst hi; exact hx
  · split at hi
    · rename_i id sz ko len _ m e its ho
      cases hf : fits its sz ko len with
      | true =>
        rw [hf] at hi; simp only [cond_true, Option.some.injEq] at hi
        have := hm id sz ko len m e its rfl ho
        subst this
        exact rowcase hx ho (.inl rfl) hf hi.symm
      | false => rw [hf] at hi; cases hi
    · rename_i id sz ko len _ e its ho
      cases hf : fits its sz ko len with
      | true => rw [hf] at hi; simp only [cond_true, Option.some.injEq] at hi; exact rowcase hx ho (.inr rfl) hf hi.symm
      | false => rw [hf] at hi; cases hi
    · cases hi
  · rename_i id off len
    exact absurd rfl (hmc id off len)
  · split at hi
    · rename_i id sz len c _ m e its ho
      cases hf : fits its sz 0 len with
      | true =>
        rw [hf] at hi; simp only [cond_true, Option.some.injEq] at hi
        have := hm2 id sz len c m e its rfl ho
        subst this
        exact rowcase hx.low ho (.inl rfl) hf hi.symm
      | false => rw [hf] at hi; cases hi
    · rename_i id sz len c _ e its ho
      cases hf : fits its sz 0 len with
      | true => rw [hf] at hi; simp only [cond_true, Option.some.injEq] at hi; exact rowcase hx.low ho (.inr rfl) hf hi.symm
      | false => rw [hf] at hi; cases hi
    · cases hi
  · rename_i u
    have hu := rep_lit hx
    subst hu
    cases hn : isNilV v with
    | true =>
      rw [hn] at hi
      simp only [cond_true, Option.some.injEq] at hi
      subst hi
      unfold isNilV at hn
      split at hn
      · exact rep_sl_nil rfl (by simp)
      · cases hn
    | false => rw [hn] at hi; cases hi
  · cases hi
theorem view1_rep (h : HeapOk P w F gb H n) {x : AV} {v : Value} (hx : Rep w (Wr F gb H) gb x v) : Rep w (Wr F gb H) gb (x.view1 H) v := by
  unfold AV.view1
  split
  · rename_i u
    have hu := rep_lit hx
    subst hu
    cases hn : isNilV v with
    | true =>
      unfold isNilV at hn
      split at hn
      · exact rep_sl_nil rfl (by simp)
      · cases hn
    | false => exact .lit v
  · rename_i id sz ko len
    split
    · rename_i e items ho
      cases hf : fits items sz ko len with
      | true =>
        refine rep_sl h hx (by simp [AV.its?, ho, hf]) (fun id' sz' ko' len' m e' its he ho' => ?_) (fun _ _ _ he => by cases he) (fun _ _ _ _ _ _ _ he => by cases he)
        injection he with e1
        subst e1
        rw [ho] at ho'
        injection ho' with ho'
        injection ho' with e1
        exact e1.symm
      | false => exact .dead v
    · rename_i e items ho
      cases hf : fits items sz ko len with
      | true =>
        refine rep_sl h hx (by simp [AV.its?, ho, hf]) (fun id' sz' ko' len' m e' its he ho' => ?_) (fun _ _ _ he => by cases he) (fun _ _ _ _ _ _ _ he => by cases he)
        injection he with e1
        subst e1
        rw [ho] at ho'
        cases ho'
      | false => exact .dead v
    · exact .dead v
  · rename_i id sz len c
    split
    · rename_i e items ho
      cases hf : fits items sz 0 len with
      | true =>
        refine rep_sl h hx.low (by simp [AV.its?, ho, hf]) (fun id' sz' ko' len' m e' its he ho' => ?_) (fun _ _ _ he => by cases he) (fun _ _ _ _ _ _ _ he => by cases he)
        injection he with e1
        subst e1
        rw [ho] at ho'
        injection ho' with ho'
        injection ho' with e1
        exact e1.symm
      | false => exact .dead v
    · rename_i e items ho
      cases hf : fits items sz 0 len with
      | true =>
        refine rep_sl h hx.low (by simp [AV.its?, ho, hf]) (fun id' sz' ko' len' m e' its he ho' => ?_) (fun _ _ _ he => by cases he) (fun _ _ _ _ _ _ _ he => by cases he)
        injection he with e1
        subst e1
        rw [ho] at ho'
        cases ho'
      | false => exact .dead v
    · exact .dead v
  · exact hx
theorem view_rep (h : HeapOk P w F gb H n) {x : AV} {v : Value} (hx : Rep w (Wr F gb H) gb x v) : Rep w (Wr F gb H) gb (x.view H) v := by
  unfold AV.view
  split
  · cases hx with
    | agg _ vs hl h1 hr =>
      refine .agg _ vs (by simp [hl]) h1 fun j c u hc hu => ?_
      rw [List.getElem?_map, Option.map_eq_some_iff] at hc
      obtain ⟨x, hx, rfl⟩ := hc
      exact view1_rep h (hr j x u hx hu)
  · exact view1_rep h hx
theorem viewR_rep (h : HeapOk P w F gb H n) {x : AV} {v : Value} (hx : Rep w (Wr F gb H) gb x v) : Rep w (Wr F gb H) gb (x.viewR H) v := by
  unfold AV.viewR
  split
  · cases hx with
    | tup _ vs hl hr =>
      refine .tup _ vs (by simp [hl]) fun j c u hc hu => ?_
      rw [List.getElem?_map, Option.map_eq_some_iff] at hc
      obtain ⟨x, hx, rfl⟩ := hc
      exact view_rep h (hr j x u hx hu)
  · exact view_rep h hx
theorem run_arr {t len e sz : Nat} (hT : T.Ok P) (h : lk? T.arrs t = some (len, e, sz)) : P.underlying t = some (.array len e) ∧ (P.info? e).map (·.size) = some sz := hT.arrs _ (lk?_mem h)
theorem v_idx {t : TypeId} {x i : Operand} {k : IntKind} {m : Int} {v : AV} (ho : o.op = .indexAddr t x i) (hT : T.Ok P) (hi : (s.eval i).int? = some (k, m)) (h : aidx T s.heap t (s.eval x) m = some v) (g : Good P N F w0 gb0 H0 s a w gb) : ∃ u, (execOp a.eval o).run P w = .ok (.value u) w ∧ Rep w (Wr F gb s.heap) gb v u := by
  have h1 := rep_int (g.eval i) hi
  have hx := g.eval x
  unfold aidx at h
  split at h
  · rename_i h0
    split at h
    · rename_i len e sz ha
      split at h
      · rename_i hlt
        obtain ⟨hu, hsz⟩ := run_arr hT ha
        have key : ∀ b off, a.eval x = .pointer (some ⟨b, off, none⟩) → (execOp a.eval o).run P w = .ok (.value (.pointer (some ⟨b, off + m.toNat * sz, none⟩))) w := by
          intro b off hv
          unfold execOp
          simp only [ho, hv, h1]
          rw [Sem.run_bind]
          simp [Instr.indexAt, run_underlying hu, asIntOf, Instr.sureAddr, h0, hlt, run_size_some hsz, Addr.add_lit]
        split at h
        · rename_i id off hc
          simp only [Option.some.injEq] at h; subst h
          rw [hc] at hx
          generalize hv : a.eval x = v at hx
          cases hx with
          | ptr _ _ b size hg => exact ⟨_, key b off hv, Rep.ptr id _ b size hg⟩
        · rename_i cs hc
          simp only [Option.some.injEq] at h; subst h
          rw [hc] at hx
          generalize hv : a.eval x = v at hx
          cases id hx with
          | ref _ b off val _ _ _ _ => exact ⟨_, key b off hv, rep_drop hx⟩
        · cases h
      · cases h
    · split at h
      · rename_i I hI
        obtain ⟨hu, ⟨inf, hinf, hz, hsz, hby⟩, _, _, _⟩ := sls_ok hT hI
        have key : ∀ b off n' c, a.eval x = .slice (some ⟨b, off, none⟩) n' c → m < n' → (execOp a.eval o).run P w = .ok (.value (.pointer (some ⟨b, off + m.toNat * I.size, none⟩))) w := by
          intro b off n' c hv hlt
          have hb : 0 ≤ m ∧ m < n' := ⟨h0, hlt⟩
          unfold execOp
          simp only [ho, hv, h1]
          rw [Sem.run_bind]
          simp [Instr.indexAt, run_underlying hu, asIntOf, hb, sizeOf, typeInfo, hinf, hsz, Addr.add_lit]
        have rest : (∀ id sz ko len mm e its, s.eval x = .rw id sz ko len → s.heap id = some (.row mm e its) → mm = false) → (∀ id off len, s.eval x ≠ .ra id off len) → (∀ id sz len c mm e its, s.eval x = .rc id sz len c → s.heap id = some (.row mm e its) → mm = false) → (match (s.eval x).its? s.heap with
          | some items => match items[m.toNat]? with
            | some it => if it.length = I.size then some (.ref it) else none
            | none => none
          | none => none) = some v → ∃ u, (execOp a.eval o).run P w = .ok (.value u) w ∧ Rep w (Wr F gb s.heap) gb v u := by
          intro hmm hmc hm2 h
          split at h
          · rename_i items hit
            split at h
            · rename_i it hk
              split at h
              · rename_i hl
                simp only [Option.some.injEq] at h; subst h
                obtain ⟨b, off, c, hv, hr⟩ := rep_at (rep_sl g.ok hx hit hmm hmc hm2) hk hl
                have hlt := (List.getElem?_eq_some_iff.1 hk).1
                exact ⟨_, key b off _ c hv (by omega), hr⟩
              · cases h
            · cases h
          · cases h
        split at h
        · rename_i _ id off len hc
          split at h
          · rename_i hb
            simp only [Option.some.injEq] at h; subst h
            rw [hc] at hx
            generalize hv : a.eval x = v at hx
            cases hx with
            | ra _ _ _ c g' size hg hcc hm' =>
              refine ⟨_, key g' _ len c hv (by omega), ?_⟩
              rw [hb.2, Nat.mul_one]
              exact Rep.ptr id (off + m.toNat) g' size hg
            | raz => omega
          · cases h
        · rename_i _ id sz len c hc
          split at h
          · rename_i e its ho'
            split at h
            · rename_i hb
              obtain ⟨hb1, hb2⟩ := hb
              rw [hc] at hx
              generalize hv : a.eval x = v at hx
              cases hx with
              | rc _ _ _ _ g' size hg hs hcc hm' =>
                refine ⟨_, key g' _ len c hv (by omega), ?_⟩
                rw [← hb2, Nat.zero_add]
                cases hbl : Nat.blt m.toNat its.length with
                | true =>
                  rw [hbl] at h
                  simp only [cond_true, Option.some.injEq] at h; subst h
                  exact Rep.el id sz m.toNat 0 g' size hg
                | false =>
                  rw [hbl] at h
                  simp only [cond_false, Option.some.injEq] at h; subst h
                  exact Rep.ec id sz m.toNat g' size hg (Nat.le_trans (Nat.mul_le_mul_right _ (by omega)) hs)
              | rcz => omega
              | rcn => omega
            · cases h
          · rename_i hnot
            refine rest (fun id' sz' ko' len' mm e' its he => ?_) (fun _ _ _ he => ?_) (fun id' sz' len' c' mm e' its he ho' => ?_) h
            · rw [hc] at he; cases he
            · rw [hc] at he; cases he
            · rw [hc] at he
              injection he with e1
              subst e1
              cases mm with
              | false => rfl
              | true => exact absurd ho' (hnot _ _)
        · rename_i _ id sz ko len hc
          split at h
          · rename_i e its ho'
            split at h
            · rename_i hb
              simp only [Option.some.injEq] at h; subst h
              rw [hc] at hx
              generalize hv : a.eval x = v at hx
              cases hx with
              | rw _ _ _ _ g' size c hg hs hc hm' =>
                refine ⟨_, key g' _ len c hv (by omega), ?_⟩
                rw [← hb.2, ← Nat.add_mul]
                exact Rep.el id sz (ko + m.toNat) 0 g' size hg
              | rwz =>
                obtain ⟨hb1, _⟩ := hb
                omega
              | rwn =>
                obtain ⟨hb1, _⟩ := hb
                omega
            · cases h
          · rename_i hnot
            exact rest (fun id' sz' ko' len' mm e its he ho' => by
              rw [hc] at he
              injection he with e1
              subst e1
              cases mm with
              | false => rfl
              | true => exact absurd ho' (hnot e its)) (fun _ _ _ he => by rw [hc] at he; cases he) (fun _ _ _ _ _ _ _ he => by rw [hc] at he; cases he) h
        · exact rest (fun id' sz' ko' len' mm e' its he ho' => absurd he (by apply_assumption)) (fun _ _ _ he => absurd he (by apply_assumption)) (fun _ _ _ _ _ _ _ he => absurd he (by apply_assumption)) h
      · cases h
  · cases h
end
end Go.Proofs.Ytheanmfdfoefoaa.Hv
set_option linter.unusedVariables false
set_option linter.unusedSimpArgs false
namespace Go.Proofs.Ytheanmfdfoefoaa.Hv
open Go Go.RowKit

section
variable {P : Program} {T : Tbl} {N : Nat} {F : Nat → Nat → Prop} {w0 w w' : World} {gb0 gb gb' : Gb} {H0 H H' : Hp} {s : AS} {a : Act} {n n' : Nat} {W : Nat → Nat → Prop} {o : Oper}
theorem v_index {t : TypeId} {x i : Operand} {u : ByteArray} {k : IntKind} {m : Int} {v : AV} (ho : o.op = .index t x i) (hT : T.Ok P) (hx : s.eval x = .lit (.string u)) (hi : (s.eval i).int? = some (k, m)) (ht : T.strs.elem t = true) (h : aindexS u m = some v) (g : Good P N F w0 gb0 H0 s a w gb) :
    ∃ y, (execOp a.eval o).run P w = .ok (.value y) w ∧ Rep w (Wr F gb s.heap) gb v y := by
  have h1 := rep_int (g.eval i) hi
  have h2 : a.eval x = .string u := by have := g.eval x; rw [hx] at this; exact rep_lit this
  unfold aindexS at h
  split at h
  · rename_i h0
    split at h
    · rename_i b hb
      simp only [Option.some.injEq] at h; subst h
      refine ⟨.int .u8 b.toNat, ?_, .lit _⟩
      have hb' : u[m.toNat]? = some b := by
        have hlt := (List.getElem?_eq_some_iff.1 hb).1
        have hlt' : m.toNat < u.size := by simpa using hlt
        rw [getElem?_pos u m.toNat hlt']
        have := (List.getElem?_eq_some_iff.1 hb).2
        simp only [Array.getElem_toList] at this
        rw [← this]; rfl
      unfold execOp
      simp only [ho, h1, h2]
      rw [Sem.run_bind]
      simp [Instr.index, asIntOf, run_underlying (hT.strs t (List.elem_iff.1 ht)), h0, hb']
    · cases h
  · cases h
theorem v_indexA {t : TypeId} {x i : Operand} {cs : List AV} {k : IntKind} {m : Int} {v : AV} {len e sz : Nat} (ho : o.op = .index t x i) (hT : T.Ok P) (hx : s.eval x = .agg cs) (hi : (s.eval i).int? = some (k, m)) (ha : lk? T.arrs t = some (len, e, sz)) (h : aindexA T cs len e sz m = some v) (g : Good P N F w0 gb0 H0 s a w gb) :
    ∃ y, (execOp a.eval o).run P w = .ok (.value y) w ∧ Rep w (Wr F gb s.heap) gb v y := by
  have h1 := rep_int (g.eval i) hi
  have he := g.eval x
  rw [hx] at he
  obtain ⟨hu, hsz⟩ := hT.arrs _ (lk?_mem ha)
  obtain ⟨inf, hinf, hsz⟩ := Option.map_eq_some_iff.1 hsz
  simp only at hu hinf hsz
  generalize hv : a.eval x = y at he
  cases he with
  | agg _ vs hl h1' hr =>
    unfold aindexA at h
    split at h
    · rename_i hb
      obtain ⟨h0, hlt, hlen⟩ := hb
      have hmt : m.toNat < len := by omega
      have hmul : m.toNat * sz + sz ≤ len * sz := by rw [← Nat.succ_mul]; exact Nat.mul_le_mul_right _ hmt
      have hsize : ∀ w : World, (Go.sizeOf e).run P w = .ok sz w := fun w => by simp [Go.sizeOf, typeInfo, hinf, hsz]
      have run : ∀ y, (part e vs.toArray (m.toNat * sz)).run P w = .ok y w → (execOp a.eval o).run P w = .ok (.value y) w := fun y hy => by
        unfold execOp
        simp only [ho, h1, hv]
        rw [Sem.run_bind]
        simp [Instr.index, asIntOf, run_underlying hu, h0, hlt, hsize, hy]
      split at h
      · rename_i hz
        obtain ⟨z1, z2⟩ := hT.szs _ (lk?_mem hz)
        simp only at z1 z2
        have hs1 : sz = 1 := by rw [hinf] at z2; simp only [Option.map_some, Option.some.injEq] at z2; omega
        subst hs1
        have hlt' : m.toNat * 1 < vs.length := by omega
        refine ⟨vs[m.toNat * 1], run _ ?_, hr _ _ _ h (List.getElem?_eq_getElem hlt')⟩
        unfold part
        have hg : vs.toArray[m.toNat * 1]? = some vs[m.toNat * 1] := by rw [List.getElem?_toArray]; exact List.getElem?_eq_getElem hlt'
        simp only [Sem.run_bind, run_isAgg_some z1, Result.andThen_ok, Bool.false_eq_true, if_false, hg, Sem.run_pure]
      · rename_i mm hz
        split at h
        · rename_i hmm
          subst hmm
          obtain ⟨z1, z2⟩ := hT.szs _ (lk?_mem hz)
          simp only at z1 z2
          simp only [Option.some.injEq] at h
          subst h
          refine ⟨.agg ((vs.drop (m.toNat * mm)).take mm).toArray, run _ ?_, Rep.agg _ _ (by simp [hl]) (fun u hu => h1' u (List.mem_of_mem_drop (List.mem_of_mem_take hu))) fun j c u hc hu => ?_⟩
          · unfold part
            simp only [Sem.run_bind, run_isAgg_some z1, Result.andThen_ok, if_true, hsize, Sem.run_pure]
            congr 2
            apply Array.toList_inj.1
            rw [Array.toList_extract, List.extract_eq_take_drop]
            simp [Nat.add_sub_cancel_left]
          · rw [List.getElem?_take] at hc hu
            split at hc
            · rename_i hj
              rw [if_pos hj] at hu
              rw [List.getElem?_drop] at hc hu
              exact hr _ c u hc hu
            · cases hc
        · cases h
      · cases h
    · cases h
theorem v_ext {x : Operand} {i : Nat} {cs : List AV} {c : AV} (ho : o.op = .extract x i) (hx : s.eval x = .tup cs) (hc : cs[i]? = some c) (g : Good P N F w0 gb0 H0 s a w gb) : ∃ u, (execOp a.eval o).run P w = .ok (.value u) w ∧ Rep w (Wr F gb s.heap) gb c u := by
  have he := g.eval x
  rw [hx] at he
  generalize hv : a.eval x = v at he
  cases he with
  | tup _ vs hl hr =>
    have hlt := (List.getElem?_eq_some_iff.1 hc).1
    have hu : vs[i]? = some vs[i] := List.getElem?_eq_getElem (by omega)
    refine ⟨vs[i], ?_, hr i c _ hc hu⟩
    unfold execOp
    simp only [ho, hv]
    rw [Sem.run_bind]
    simp [Instr.extract, hu]
theorem run_bounds {isS : Bool} {len cap : Nat} {lo hi : Option Operand} {l h : Int} (g : Good P N F w0 gb0 H0 s a w gb) (hl : onum 0 (lo.map s.eval) = some l) (hh : onum len (hi.map s.eval) = some h) (b1 : 0 ≤ l) (b2 : l ≤ h) (b3 : h ≤ len) (b4 : len ≤ cap) :
    (Instr.sliceBounds isS len cap (lo.map a.eval) (hi.map a.eval) none).run P w = .ok (l.toNat, h.toNat, cap) w := by
  have hH : ∀ (k : IntKind) (cd : BoundsCode), (Instr.sliceBound (.int k h) cap cd).run P w = .ok h.toNat w := fun k cd => by
    have h1 : 0 ≤ h ∧ h ≤ (cap : Int) := by omega
    simp [Instr.sliceBound, asIntOf, h1]
  have hL : ∀ (k : IntKind) (cd : BoundsCode), (Instr.sliceBound (.int k l) h.toNat cd).run P w = .ok l.toNat w := fun k cd => by
    have h1 : 0 ≤ l ∧ l ≤ (h.toNat : Int) := by omega
    simp only [Instr.sliceBound, asIntOf, Sem.run_bind, Sem.run_pure, Result.andThen_ok, if_pos h1]
  cases lo with
  | none =>
    simp only [Option.map_none, onum, Option.some.injEq] at hl
    subst hl
    cases hi with
    | none =>
      simp only [Option.map_none, onum, Option.some.injEq] at hh
      subst hh
      simp [Instr.sliceBounds]
    | some y =>
      simp only [Option.map_some, onum] at hh
      obtain ⟨k, hv⟩ := rep_num (g.eval y) hh
      simp [Instr.sliceBounds, hv, hH]
  | some x =>
    simp only [Option.map_some, onum] at hl
    obtain ⟨k', hv'⟩ := rep_num (g.eval x) hl
    cases hi with
    | none =>
      simp only [Option.map_none, onum, Option.some.injEq] at hh
      subst hh
      simp only [Int.toNat_natCast] at hL
      simp [Instr.sliceBounds, hv', hL]
    | some y =>
      simp only [Option.map_some, onum] at hh
      obtain ⟨k, hv⟩ := rep_num (g.eval y) hh
      simp [Instr.sliceBounds, hv, hv', hH, hL]
theorem rep_cut {items : List (List AV)} {v : Value} {sz l h : Nat} (hr : Rep w W gb (.sl items) v) (hlh : l ≤ h) (hh : h ≤ items.length) (hi : ∀ it ∈ items, it.length = sz) :
    ∃ A c, v = .slice A items.length c ∧ items.length ≤ c ∧ c ≤ maxLen ∧ Rep w W gb (.sl ((items.take h).drop l)) (.slice (if c = l then A else A.map (·.add (l * sz))) (h - l) (c - l)) := by
  cases hr with
  | sl _ sz' A c b off val hi' hc hm ha hcell hF h1 hr =>
    refine ⟨A, c, rfl, hc, hm, ?_⟩
    have hlen : ((items.take h).drop l).length = h - l := by simp; omega
    have hcut : ∀ (j : Nat) (x : AV), ((items.take h).drop l).flatten[j]? = some x → items.flatten[l * sz + j]? = some x := fun j x hx => flatten_take (flatten_drop (fun it hit => hi it (List.mem_of_mem_take hit)) hx)
    rw [← hlen]
    by_cases hne : items = []
    · have hz : (items.take h).drop l = [] := by simp [hne]
      rw [hz]
      exact rep_sl_nil rfl (by omega)
    · have hA := ha hne
      subst hA
      refine Rep.sl _ sz _ (c - l) b (off + l * sz) (fun j => val (l * sz + j)) (fun it hit => hi it (List.mem_of_mem_take (List.mem_of_mem_drop hit))) (by rw [hlen]; omega) (by omega) (fun hne' => ?_) (fun j x hx => ?_) (fun j x hx => ?_) (fun j x hx => h1 _ x (hcut j x hx)) (fun j x hx => hr _ x (hcut j x hx))
      · have : c ≠ l := by
          intro e
          apply hne'
          apply List.eq_nil_of_length_eq_zero
          omega
        rw [if_neg this]
        simp [Addr.add_lit]
      · rw [Nat.add_assoc]; exact hcell _ x (hcut j x hx)
      · rw [Nat.add_assoc]; exact hF _ x (hcut j x hx)
theorem v_slice {t : TypeId} {x : Operand} {lo hi : Option Operand} {r : AV} (ho : o.op = .slice t x lo hi none) (hT : T.Ok P) (hr : acut T t (s.eval x) (lo.map s.eval) (hi.map s.eval) = some r) (g : Good P N F w0 gb0 H0 s a w gb) : ∃ u, (execOp a.eval o).run P w = .ok (.value u) w ∧ Rep w (Wr F gb s.heap) gb r u := by
  have he := g.eval x
  have hsl : ∀ (I : SlI) (items : List (List AV)) (l h : Int), Rep w (Wr F gb s.heap) gb (.sl items) (a.eval x) → lk? T.sls t = some I → onum 0 (lo.map s.eval) = some l → onum items.length (hi.map s.eval) = some h → acutL I items l h = some r → ∃ u, (execOp a.eval o).run P w = .ok (.value u) w ∧ Rep w (Wr F gb s.heap) gb r u := by
    intro I items l m hrp hI hl hm hr
    unfold acutL at hr
    split at hr
    · rename_i hb
      obtain ⟨⟨b1, b2, b3⟩, hsz⟩ := hb
      simp only [Option.some.injEq] at hr
      subst hr
      obtain ⟨A, c, hv, hc1, hc2, hrep⟩ := rep_cut (l := l.toNat) (h := m.toNat) hrp (by omega) (by omega) hsz
      obtain ⟨hu, ⟨inf, hinf, hz, hsi, hby⟩, _, _, _⟩ := sls_ok hT hI
      refine ⟨.slice (if c = l.toNat then A else A.map (·.add (l.toNat * I.size))) (m.toNat - l.toNat) (c - l.toNat), ?_, hrep⟩
      unfold execOp
      simp only [ho, hv, Instr.sliceAt, Sem.run_bind, run_underlying hu, Result.andThen_ok, Instr.slice, Option.map_none, Option.isSome_none, Bool.false_eq_true, if_false, Sem.run_pure]
      rw [run_bounds g hl hm b1 b2 b3 hc1]
      simp [sizeOf, typeInfo, hinf, hsi]
    · cases hr
  unfold acut at hr
  split at hr
  · rename_i u hu
    rw [hu] at he
    have hv := rep_lit he
    cases hst : T.strs.elem t with
    | false => rw [hst] at hr; cases hr
    | true =>
      rw [hst] at hr
      simp only [cond_true, Option.bind_eq_some_iff] at hr
      obtain ⟨l, hl, m, hm, hr⟩ := hr
      unfold acutS at hr
      split at hr
      · rename_i hb
        obtain ⟨b1, b2, b3⟩ := hb
        simp only [Option.some.injEq] at hr
        subst hr
        refine ⟨.string (u.extract l.toNat m.toNat), ?_, Rep.lit _⟩
        unfold execOp
        simp only [ho, hv, Instr.sliceAt, Sem.run_bind, run_underlying (hT.strs t (List.elem_iff.1 hst)), Result.andThen_ok, Instr.slice, Option.map_none, Option.isSome_none, Bool.false_eq_true, if_false, Sem.run_pure]
        rw [run_bounds g hl hm b1 b2 b3 (Nat.le_refl _)]
        rfl
      · cases hr
  · rename_i u _ hu
    rw [hu] at he
    have hv := rep_lit he
    cases hn : isNilV u with
    | false => rw [hn] at hr; cases hr
    | true =>
      rw [hn] at hr
      simp only [cond_true, Option.bind_eq_some_iff] at hr
      obtain ⟨I, hI, l, hl, m, hm, hr⟩ := hr
      refine hsl I [] l m ?_ hI hl hm hr
      rw [hv]
      unfold isNilV at hn
      split at hn
      · exact rep_sl_nil rfl (by simp)
      · cases hn
  · rename_i items hu
    rw [hu] at he
    simp only [Option.bind_eq_some_iff] at hr
    obtain ⟨I, hI, l, hl, m, hm, hr⟩ := hr
    exact hsl I items l m he hI hl hm hr
  · rename_i id sz ko len hu
    rw [hu] at he
    simp only [Option.bind_eq_some_iff] at hr
    obtain ⟨I, hI, l, hl, m, hm, hr⟩ := hr
    unfold acutR at hr
    split at hr
    · rename_i hb
      obtain ⟨⟨b1, b2, b3⟩, hsz⟩ := hb
      simp only [Option.some.injEq] at hr
      subst hr
      obtain ⟨hu', ⟨inf, hinf, hz, hsi, hby⟩, _, hsp, _⟩ := sls_ok hT hI
      generalize hv : a.eval x = v at he
      have hrun : ∀ (A : Option Addr) (c : Nat), v = .slice A len c → len ≤ c → (execOp a.eval o).run P w = .ok (.value (.slice (if c = l.toNat then A else A.map (·.add (l.toNat * I.size))) (m.toNat - l.toNat) (c - l.toNat))) w := by
        intro A c hvv hc1
        unfold execOp
        simp only [ho, hv, hvv, Instr.sliceAt, Sem.run_bind, run_underlying hu', Result.andThen_ok, Instr.slice, Option.map_none, Option.isSome_none, Bool.false_eq_true, if_false, Sem.run_pure]
        rw [run_bounds g hl hm b1 b2 b3 hc1]
        simp [sizeOf, typeInfo, hinf, hsi]
      have hml : (m - l).toNat = m.toNat - l.toNat := by omega
      rw [hml]
      cases he with
      | rw _ _ _ _ gg size c hg hs hc hm' =>
        refine ⟨_, hrun _ c rfl hc, ?_⟩
        by_cases hcl : c = l.toNat
        · subst hcl
          have h1 : l.toNat = len := by omega
          have h0 : m.toNat - l.toNat = 0 := by omega
          rw [if_pos rfl, h0, Nat.sub_self]
          exact Rep.rwz id sz _ _ gg size hg
        · rw [if_neg hcl]
          have e1 : (some (⟨gg, ko * sz, none⟩ : Addr)).map (·.add (l.toNat * I.size)) = some ⟨gg, (ko + l.toNat) * sz, none⟩ := by
            simp [Addr.add_lit, ← hsz, Nat.add_mul]
          rw [e1]
          refine Rep.rw id sz (ko + l.toNat) _ gg size (c - l.toNat) hg ?_ (by omega) (by omega)
          rw [← Nat.add_mul, show ko + l.toNat + (c - l.toNat) = ko + c from by omega, Nat.add_mul]
          exact hs
      | rwz _ _ _ off gg size hg =>
        refine ⟨_, hrun _ 0 rfl (Nat.le_refl _), ?_⟩
        have h0 : l = 0 := by omega
        have h1 : m = 0 := by omega
        subst h0 h1
        simp only [Int.toNat_zero, if_pos, Nat.sub_self, Nat.add_zero]
        exact Rep.rwz id sz _ _ gg size hg
      | rwn =>
        refine ⟨_, hrun none 0 rfl (Nat.le_refl _), ?_⟩
        have h0 : l = 0 := by omega
        have h1 : m = 0 := by omega
        subst h0 h1
        simp only [Int.toNat_zero, if_pos, Nat.sub_self, Nat.add_zero]
        exact Rep.rwn id sz
    · cases hr
  · rename_i id off hu
    rw [hu] at he
    split at hr
    · rename_i len e sz ha
      cases hb : (Nat.beq sz 1 && Nat.ble len 9223372036854775807) with
      | false => rw [hb] at hr; cases hr
      | true =>
        rw [hb] at hr
        simp only [cond_true, Option.bind_eq_some_iff] at hr
        obtain ⟨l, hl, m, hm, hr⟩ := hr
        unfold acutA at hr
        split at hr
        · rename_i hbd
          obtain ⟨b1, b2, b3⟩ := hbd
          simp only [Option.some.injEq] at hr
          subst hr
          rw [Bool.and_eq_true] at hb
          obtain rfl := Nat.eq_of_beq_eq_true hb.1
          have hmx := Nat.le_of_ble_eq_true hb.2
          obtain ⟨hu, hsz⟩ := run_arr hT ha
          generalize hv : a.eval x = v at he
          cases he with
          | ptr _ _ gg size hg =>
            have hrun : (execOp a.eval o).run P w = .ok (.value (.slice (some (if len = l.toNat then ⟨gg, off, none⟩ else (⟨gg, off, none⟩ : Addr).add (l.toNat * 1))) (m.toNat - l.toNat) (len - l.toNat))) w := by
              unfold execOp
              simp only [ho, hv, Instr.sliceAt, Sem.run_bind, run_underlying hu, Result.andThen_ok, Instr.sureAddr, Option.map_none, Option.isSome_none, Bool.false_eq_true, if_false, Sem.run_pure]
              rw [run_bounds g hl hm b1 b2 b3 (Nat.le_refl _)]
              simp [run_size_some hsz]
            have hml : (m - l).toNat = m.toNat - l.toNat := by omega
            rw [hml]
            refine ⟨_, hrun, ?_⟩
            by_cases hcl : len = l.toNat
            · rw [if_pos hcl]
              have h0 : m.toNat - l.toNat = 0 := by omega
              rw [h0, show len - l.toNat = 0 by omega]
              exact Rep.raz id _ _ gg size hg
            · rw [if_neg hcl, show (⟨gg, off, none⟩ : Addr).add (l.toNat * 1) = ⟨gg, off + l.toNat, none⟩ by simp [Addr.add_lit]]
              exact Rep.ra id (off + l.toNat) _ (len - l.toNat) gg size hg (by omega) (by unfold maxLen; omega)
        · cases hr
    · cases hr
  · rename_i id sz len c hu
    rw [hu] at he
    split at hr
    · rename_i y' hlo hhi
      obtain rfl : lo = none := by cases lo with
        | none => rfl
        | some q => cases hlo
      obtain ⟨y, rfl, rfl⟩ : ∃ y, hi = some y ∧ s.eval y = y' := by cases hi with
        | none => cases hhi
        | some q => exact ⟨q, rfl, by simpa using hhi⟩
      simp only [Option.bind_eq_some_iff] at hr
      obtain ⟨I, hI, m, hm, hr⟩ := hr
      unfold acutC at hr
      split at hr
      · rename_i hb
        obtain ⟨⟨b1, b2⟩, hsz⟩ := hb
        simp only [Option.some.injEq] at hr
        subst hr
        obtain ⟨hu', ⟨inf, hinf, hz, hsi, hby⟩, _, hsp, _⟩ := sls_ok hT hI
        generalize hv : a.eval x = v at he
        have hrun : ∀ (A : Option Addr), v = .slice A len c → (execOp a.eval o).run P w = .ok (.value (.slice (if c = 0 then A else A.map (·.add (0 * I.size))) m.toNat c)) w := by
          intro A hvv
          unfold execOp
          simp only [ho, hv, hvv, Instr.sliceAt, Sem.run_bind, run_underlying hu', Result.andThen_ok, Instr.slice, Option.map_none, Option.isSome_none, Bool.false_eq_true, if_false, Sem.run_pure]
          have := run_bounds (isS := true) (len := c) (cap := c) (lo := none) (hi := some y) (l := 0) (h := m) g rfl hm (by omega) b1 b2 (Nat.le_refl _)
          have e1 : (Instr.sliceBounds true len c (Option.map a.eval none) (Option.map a.eval (some y)) none).run P w = (Instr.sliceBounds true c c (Option.map a.eval none) (Option.map a.eval (some y)) none).run P w := by rfl
          rw [Option.map_none] at e1 this
          rw [e1, this]
          simp [sizeOf, typeInfo, hinf, hsi]
        cases he with
        | rc _ _ _ _ gg size hg hs hc hm' =>
          refine ⟨_, hrun _ rfl, ?_⟩
          have e2 : (if c = 0 then (some (⟨gg, 0, none⟩ : Addr)) else (some (⟨gg, 0, none⟩ : Addr)).map (·.add (0 * I.size))) = some ⟨gg, 0, none⟩ := by
            split <;> simp [Addr.add_lit]
          rw [e2]
          exact Rep.rc id sz m.toNat c gg size hg hs (by omega) hm'
        | rcz _ _ off gg size hg =>
          refine ⟨_, hrun _ rfl, ?_⟩
          rw [if_pos rfl, show m.toNat = 0 by omega]
          exact Rep.rcz id sz off gg size hg
        | rcn =>
          refine ⟨_, hrun _ rfl, ?_⟩
          rw [if_pos rfl, show m.toNat = 0 by omega]
          exact Rep.rcn id sz
      · cases hr
    · cases hr
  · rename_i id off len hu
    rw [hu] at he
    simp only [Option.bind_eq_some_iff] at hr
    obtain ⟨I, hI, hr⟩ := hr
    cases hb : Nat.beq I.size 1 with
    | false => rw [hb] at hr; cases hr
    | true =>
      rw [hb] at hr
      simp only [cond_true, Option.bind_eq_some_iff] at hr
      obtain ⟨l, hl, m, hm, hr⟩ := hr
      have hs1 := Nat.eq_of_beq_eq_true hb
      unfold acutA at hr
      split at hr
      · rename_i hbd
        obtain ⟨b1, b2, b3⟩ := hbd
        simp only [Option.some.injEq] at hr
        subst hr
        obtain ⟨hu', ⟨inf, hinf, hz, hsi, hby⟩, _, hsp, _⟩ := sls_ok hT hI
        generalize hv : a.eval x = v at he
        have hrun : ∀ (A : Option Addr) (c : Nat), v = .slice A len c → len ≤ c → (execOp a.eval o).run P w = .ok (.value (.slice (if c = l.toNat then A else A.map (·.add (l.toNat * I.size))) (m.toNat - l.toNat) (c - l.toNat))) w := by
          intro A c hvv hc1
          unfold execOp
          simp only [ho, hv, hvv, Instr.sliceAt, Sem.run_bind, run_underlying hu', Result.andThen_ok, Instr.slice, Option.map_none, Option.isSome_none, Bool.false_eq_true, if_false, Sem.run_pure]
          rw [run_bounds g hl hm b1 b2 b3 hc1]
          simp [sizeOf, typeInfo, hinf, hsi]
        have hml : (m - l).toNat = m.toNat - l.toNat := by omega
        rw [hml]
        cases he with
        | ra _ _ _ c gg size hg hc hm' =>
          refine ⟨_, hrun _ c rfl hc, ?_⟩
          by_cases hcl : c = l.toNat
          · subst hcl
            rw [if_pos rfl, show m.toNat - l.toNat = 0 by omega, Nat.sub_self]
            exact Rep.raz id _ _ gg size hg
          · rw [if_neg hcl]
            have e1 : (some (⟨gg, off, none⟩ : Addr)).map (·.add (l.toNat * I.size)) = some ⟨gg, off + l.toNat, none⟩ := by
              simp [Addr.add_lit, hs1]
            rw [e1]
            exact Rep.ra id (off + l.toNat) _ (c - l.toNat) gg size hg (by omega) (by omega)
        | raz _ _ off2 gg size hg =>
          refine ⟨_, hrun _ 0 rfl (Nat.le_refl _), ?_⟩
          have h0 : l = 0 := by omega
          have h1 : m = 0 := by omega
          subst h0 h1
          simp only [Int.toNat_zero, if_pos, Nat.sub_self, Nat.add_zero]
          exact Rep.raz id _ _ gg size hg
      · cases hr
  · cases hr
theorem pure_of_one {x : AV} (h : x.cells.all AV.isOne = true) : x.cells.all AV.isOne = true := h
theorem rep_one {x : AV} {v : Value} (h : Rep w W gb x v) (h1 : x.isOne = true) : v.oneCell' = true := by
  cases h <;> first | exact h1 | rfl | cases h1
theorem repL_one {x : AV} {v : Value} (h : Rep w W gb x v) (h1 : x.isOne = true) : RepL w W gb [x] [v] := by
  refine ⟨rfl, fun u hu => ?_, fun j c u hc hu => ?_⟩
  · simp only [List.mem_singleton] at hu; subst hu; exact rep_one h h1
  · match j with
    | 0 => simp only [List.getElem?_cons_zero, Option.some.injEq] at hc hu; subst hc hu; exact h
    | j + 1 => simp at hc
theorem cells_self {v : Value} (h : v.oneCell' = true) : v.cells = #[v] := by
  cases v <;> first | rfl | cases h
theorem rep_cells {x : AV} {v : Value} (h : Rep w W gb x v) (hc : x.cells.all AV.isOne = true) : RepL w W gb x.cells v.cells.toList := by
  have one : x.isOne = true → RepL w W gb [x] v.cells.toList := fun h1 => by
    rw [cells_self (rep_one h h1)]
    exact repL_one h h1
  cases x with
  | agg cs =>
    cases h with
    | agg _ vs hl h1 hr => exact ⟨hl, h1, hr⟩
  | lit u =>
    have hu := rep_lit h
    subst hu
    cases v with
    | agg us =>
      refine ⟨by simp [AV.cells, Value.cells], fun u hu => ?_, fun j c u hj hu => ?_⟩
      · have hu' : u ∈ us.toList := hu
        have := List.all_eq_true.1 hc (.lit u) (List.mem_map.2 ⟨u, hu', rfl⟩)
        exact this
      · have hj' : (us.toList.map AV.lit)[j]? = some c := hj
        have hu' : us.toList[j]? = some u := hu
        rw [List.getElem?_map, hu'] at hj'
        simp only [Option.map_some, Option.some.injEq] at hj'
        subst hj'
        exact .lit u
    | _ => exact one (by simpa [AV.cells] using hc)
  | _ => exact one (by simpa [AV.cells] using hc)
theorem repL_lits {us : List Value} (h1 : (us.map AV.lit).all AV.isOne = true) : RepL w W gb (us.map .lit) us := by
  refine ⟨by simp, fun u hu => List.all_eq_true.1 h1 (.lit u) (List.mem_map.2 ⟨u, hu, rfl⟩), fun j c u hj hu => ?_⟩
  rw [List.getElem?_map, hu] at hj
  simp only [Option.map_some, Option.some.injEq] at hj
  subst hj
  exact .lit u
theorem fold_set {cells : Array Value} {xs : List Value} {off k : Nat} (h : off + k + xs.length ≤ cells.size) :
    ((xs.zipIdx k).foldl (fun cs (p : Value × Nat) => cs.setIfInBounds (off + p.2) p.1) cells).toList = cells.toList.take (off + k) ++ xs ++ cells.toList.drop (off + k + xs.length) := by
  induction xs generalizing cells k with
  | nil => simp
  | cons x xs ih =>
    simp only [List.zipIdx_cons, List.foldl_cons, List.length_cons] at h ⊢
    rw [ih (by simp; omega)]
    have hlt : off + k < cells.toList.length := by simp; omega
    have e1 : (cells.setIfInBounds (off + k) x).toList = cells.toList.take (off + k) ++ x :: cells.toList.drop (off + k + 1) := by
      rw [Array.toList_setIfInBounds, List.set_eq_take_append_cons_drop, if_pos hlt]
    rw [e1]
    have hl : (cells.toList.take (off + k)).length = off + k := by rw [List.length_take]; omega
    rw [List.take_append, List.drop_append, hl]
    have e2 : off + (k + 1) - (off + k) = 1 := by omega
    have e3 : off + (k + 1) + xs.length - (off + k) = xs.length + 1 := by omega
    rw [e2, e3]
    have e4 : (cells.toList.take (off + k)).take (off + (k + 1)) = cells.toList.take (off + k) := List.take_of_length_le (by rw [hl]; omega)
    have e5 : (cells.toList.take (off + k)).drop (off + (k + 1) + xs.length) = [] := List.drop_eq_nil_of_le (by rw [hl]; omega)
    rw [e4, e5]
    simp only [List.take_succ_cons, List.take_zero, List.drop_succ_cons, List.nil_append, List.drop_drop, List.append_assoc, List.cons_append]
    congr 4
    omega
theorem fill_step {place : Nat → Option (Nat × Nat)} {cells : Array Value} {i off size : Nat} {v : Value} {rest : List (Nat × Value)} (hp : place i = some (off, size)) (h1 : v.cells.size = size) (h2 : off + size ≤ cells.size) :
    ∃ cells' : Array Value, cells'.toList = cells.toList.take off ++ v.cells.toList ++ cells.toList.drop (off + size) ∧ Instr.fill place cells ((i, v) :: rest) = Instr.fill place cells' rest := by
  refine ⟨v.cells.zipIdx.foldl (fun cs (p : Value × Nat) => cs.setIfInBounds (off + p.2) p.1) cells, ?_, ?_⟩
  · have := fold_set (cells := cells) (xs := v.cells.toList) (off := off) (k := 0) (by simp; omega)
    rw [← Array.foldl_toList, Array.toList_zipIdx]
    rw [this]
    simp [h1]
  · show (match place i with | none => none | some (off, size) => _) = _
    rw [hp]
    simp only
    rw [if_neg (by simp [h1]; omega)]
theorem fill_sound {pl : List (Nat × Nat)} (g : Good P N F w0 gb0 H0 s a w gb) {place : Nat → Option (Nat × Nat)} (hpl : ∀ i p, pl[i]? = some p → place i = some p) : ∀ (parts : List (Nat × Operand)) {cs ds : List AV} {us : Array Value}, RepL w (Wr F gb s.heap) gb cs us.toList → abuild pl s.eval parts cs = some ds →
    ∃ vs : Array Value, Instr.fill place us (parts.map fun p => (p.1, a.eval p.2)) = some vs ∧ RepL w (Wr F gb s.heap) gb ds vs.toList := by
  intro parts
  induction parts with
  | nil =>
    intro cs ds us h hb
    simp only [abuild, Option.some.injEq] at hb
    subst hb
    exact ⟨us, rfl, h⟩
  | cons p parts ih =>
    obtain ⟨i, x⟩ := p
    intro cs ds us h hb
    simp only [abuild] at hb
    split at hb
    · rename_i off size hp
      split at hb
      · rename_i hc
        obtain ⟨⟨h1, h2⟩, h3⟩ := hc
        have hx := rep_cells (g.eval x) h3
        have hl := hx.len
        have hsz : (a.eval x).cells.size = size := by rw [← Array.length_toList, ← hl]; exact h1
        have hus : us.size = cs.length := by rw [← Array.length_toList]; exact h.len.symm
        obtain ⟨us', e1, e2⟩ := fill_step (rest := parts.map fun p => (p.1, a.eval p.2)) (hpl i _ hp) hsz (cells := us) (by rw [hus]; exact h2)
        obtain ⟨vs, hv1, hv2⟩ := ih (us := us') (cs := setR cs off (s.eval x).cells) (by
          rw [e1]
          have := h.setR hx off
          rw [Array.length_toList, hsz] at this
          exact this) hb
        refine ⟨vs, ?_, hv2⟩
        rw [List.map_cons, e2]
        exact hv1
      · cases hb
    · cases hb
theorem run_zero_some {t : Nat} {z : Value} (h : (P.info? t).map (·.zero) = some (some z)) (w : World) : (zeroValue t).run P w = .ok z w := by
  rw [Option.map_eq_some_iff] at h
  obtain ⟨i, hi, hz⟩ := h
  simp [zeroValue, typeInfo, hi, hz]
theorem v_build {t : TypeId} {parts : Array (Nat × Operand)} {z : Value} {pl : List (Nat × Nat)} {cs : List AV} (ho : o.op = .build t parts) (hT : T.Ok P) (hz : lk? T.zeros t = some z) (h1 : (z.cells.toList.map AV.lit).all AV.isOne = true) (hpl : lk? T.fszs t = some pl) (hb : abuild pl s.eval parts.toList (z.cells.toList.map .lit) = some cs)
    (g : Good P N F w0 gb0 H0 s a w gb) : ∃ u, (execOp a.eval o).run P w = .ok (.value u) w ∧ Rep w (Wr F gb s.heap) gb (.agg cs) u := by
  have hzz : (P.info? _).map (·.zero) = some (some z) := hT.zeros _ (lk?_mem hz)
  have hpp : placesOf P t = some pl := hT.fszs _ (lk?_mem hpl)
  have hbuilt : ∃ vs, P.built t (parts.map fun (i, x) => (i, a.eval x)).toList = some vs ∧ RepL w (Wr F gb s.heap) gb cs vs.toList := by
    rw [Option.map_eq_some_iff] at hzz
    obtain ⟨it, hit, hitz⟩ := hzz
    unfold placesOf at hpp
    split at hpp
    · rename_i fs hfs
      obtain ⟨vs, hv1, hv2⟩ := fill_sound (place := fun i => pl.toArray[i]?) g (fun i p h => by simpa using h) parts.toList (repL_lits (w := w) (W := Wr F gb s.heap) (gb := gb) h1) hb
      refine ⟨vs, ?_, hv2⟩
      unfold Program.built
      simp only [hit, hfs, hitz, hpp]
      rw [Array.toList_map]
      exact hv1
    · rename_i len e hfs
      obtain ⟨ie, hie, hpl'⟩ := Option.map_eq_some_iff.1 hpp
      obtain ⟨vs, hv1, hv2⟩ := fill_sound (place := fun i => some (i * ie.size, ie.size)) g (fun i p h => by
        rw [← hpl', List.getElem?_map, Option.map_eq_some_iff] at h
        obtain ⟨j, hj, rfl⟩ := h
        obtain ⟨_, e⟩ := List.getElem?_eq_some_iff.1 hj
        rw [List.getElem_range] at e
        rw [e]) parts.toList (repL_lits (w := w) (W := Wr F gb s.heap) (gb := gb) h1) hb
      refine ⟨vs, ?_, hv2⟩
      unfold Program.built
      simp only [hit, hfs, hitz, hie]
      rw [Array.toList_map]
      exact hv1
    · cases hpp
  obtain ⟨vs, hbuilt, hv2⟩ := hbuilt
  refine ⟨.agg vs, ?_, Rep.agg cs vs.toList hv2.len hv2.one hv2.rep⟩
  unfold execOp
  simp only [ho]
  rw [Sem.run_bind, run_build w t _ vs hbuilt]
  rfl
theorem v_conv {t t' : TypeId} {x : Operand} {k k0 : IntKind} {k' : IntKind} {m : Int} (ho : o.op = .convert t t' x) (hT : T.Ok P) (hk0 : lk? T.ints t = some k0) (hk : lk? T.ints t' = some k) (hx : (s.eval x).int? = some (k', m)) (g : Good P N F w0 gb0 H0 s a w gb) : ∃ u, (execOp a.eval o).run P w = .ok (.value u) w ∧ Rep w (Wr F gb s.heap) gb (.lit (.int k (k.wrap m))) u := by
  have h1 := rep_int (g.eval x) hx
  have h2 := hT.ints _ (lk?_mem hk)
  have hd' := hT.ints _ (lk?_mem hk0)
  refine ⟨.int k (k.wrap m), ?_, .lit _⟩
  unfold execOp
  simp only [ho, h1]
  simp [convert, run_underlying hd', run_underlying h2, Conv.intToInt]
/-- Bytes' cells. -/
theorem bytesOf_spec : ∀ {items : List (List AV)} {l : List Int}, bytesOf items = some l → items.length = l.length ∧ ∀ (j : Nat) (x : AV), items.flatten[j]? = some x → ∃ m : Int, x = .lit (.int .u8 m) ∧ l[j]? = some m := by
  intro items
  induction items with
  | nil => intro l h; simp only [bytesOf, Option.some.injEq] at h; subst h; exact ⟨rfl, fun j x hx => by simp at hx⟩
  | cons it items ih =>
    intro l h
    unfold bytesOf at h
    split at h
    · rename_i heq; cases heq
    · rename_i m r heq
      injection heq with e1 e2
      subst e1 e2
      split at h
      · rename_i l' hl
        simp only [Option.some.injEq] at h
        subst h
        obtain ⟨i1, i2⟩ := ih hl
        refine ⟨by simp [i1], fun j x hx => ?_⟩
        cases j with
        | zero =>
          simp only [List.flatten_cons, List.cons_append, List.nil_append, List.getElem?_cons_zero, Option.some.injEq] at hx
          subst hx
          exact ⟨m, rfl, rfl⟩
        | succ j =>
          simp only [List.flatten_cons, List.cons_append, List.nil_append, List.getElem?_cons_succ] at hx ⊢
          exact i2 j x hx
      · cases h
    · cases h
theorem bytesOf_flat {items : List (List AV)} {l : List Int} (h : bytesOf items = some l) : items.flatten.length = l.length := by
  induction items generalizing l with
  | nil => simp only [bytesOf, Option.some.injEq] at h; subst h; rfl
  | cons it items ih =>
    unfold bytesOf at h
    split at h
    · rename_i heq; cases heq
    · rename_i m r heq
      injection heq with e1 e2
      subst e1 e2
      split at h
      · rename_i l' hl
        simp only [Option.some.injEq] at h
        subst h
        simp [ih hl]
      · cases h
    · cases h
theorem v_bytes {t t' : TypeId} {x : Operand} {items : List (List AV)} {l : List Int} (ho : o.op = .convert t t' x) (hT : T.Ok P) (ht : T.byts.elem t = true) (ht' : T.strs.elem t' = true) (hx : (s.eval x).its? s.heap = some items) (hl : bytesOf items = some l) (g : Good P N F w0 gb0 H0 s a w gb) : ∃ u, (execOp a.eval o).run P w = .ok (.value u) w ∧ Rep w (Wr F gb s.heap) gb (.lit (.string (strOfNums l))) u := by
  obtain ⟨e, h1, h2, _⟩ := hT.byts t (List.elem_iff.1 ht)
  have h3 := hT.strs t' (List.elem_iff.1 ht')
  obtain ⟨sz, A, c, b, off, val, hi, hv, hc, hm, ha, hcell⟩ := rep_its g.ok (g.eval x) hx
  obtain ⟨hll, hsp⟩ := bytesOf_spec hl
  have hfl := bytesOf_flat hl
  refine ⟨_, ?_, .lit _⟩
  unfold execOp
  simp only [ho, hv]
  rw [Sem.run_bind]
  by_cases hne : items = []
  · subst hne
    have : l = [] := List.eq_nil_of_length_eq_zero hll.symm
    subst this
    cases A with
    | none => rw [run_convert_bytes_nil w t e h1 h2 _ _ t' h3]; rfl
    | some A =>
      have hl0 : (loadCells A 0).run P w = .ok #[] w := run_loadCells_list (P := P) (w := w) A [] (fun j u hu => by simp at hu)
      rw [run_convert_bytes_string w t t' e _ _ _ h1 h2 h3, List.length_nil, run_bytesToString w A 0 c [] hl0]; rfl
  · rw [ha hne, run_convert_bytes_arg w t e h1 h2 b off items.length c l hll.symm (fun i hi => ?_) t' h3]
    · rfl
    · obtain ⟨x, hx⟩ : ∃ x, items.flatten[i]? = some x := ⟨_, List.getElem?_eq_getElem (by omega)⟩
      obtain ⟨m, rfl, hm⟩ := hsp i x hx
      have := (hcell i _ hx)
      rw [this.1, rep_lit this.2.2, List.getD_eq_getElem?_getD, hm]; rfl
theorem v_nil {x : Operand} (ho : o.op = .nilCheck x) (hx : nonNil (s.eval x) = true) (g : Good P N F w0 gb0 H0 s a w gb) : ∃ u, (execOp a.eval o).run P w = .ok (.value u) w ∧ Rep w (Wr F gb s.heap) gb (s.eval x) u := by
  have hr := g.eval x
  refine ⟨a.eval x, ?_, hr⟩
  unfold execOp
  simp only [ho]
  generalize a.eval x = v at hr
  generalize s.eval x = y at hr hx
  cases hr <;> first | rfl | cases hx
theorem v_fn {f : FuncId} {caps : Array Operand} (ho : o.op = .makeFunc (.func f) #[] caps) (g : Good P N F w0 gb0 H0 s a w gb) : ∃ u, (execOp a.eval o).run P w = .ok (.value u) w ∧ Rep w (Wr F gb s.heap) gb (.fn f (litArgs s.eval caps)) u := by
  refine ⟨.func (.func f) #[] (caps.toList.map a.eval).toArray, ?_, Rep.fn f _ _ (by simp [litArgs]) fun j c u hc hu => ?_⟩
  · unfold execOp
    simp only [ho, Instr.makeFunc, Sem.run_bind, Sem.run_pure, Result.andThen_ok]
    congr 3
    all_goals (apply Array.toList_inj.1; simp)
  · unfold litArgs at hc
    rw [List.getElem?_map, Option.map_eq_some_iff] at hc hu
    obtain ⟨x, hx, rfl⟩ := hc
    obtain ⟨y, hy, rfl⟩ := hu
    rw [hx] at hy
    injection hy with hy
    subst hy
    exact g.eval x

/-! ### maps -/
theorem keyCell_val {k x : AV} {u v : Value} {b : Bool} (h : keyCell k x = some b) (hk : Rep w W gb k u) (hx : Rep w W gb x v) : b = veq u v ∧ (b = true → v = u) ∧ ∀ c, ckIs c u = true → ckIs c v = true := by
  unfold keyCell at h
  split at h
  · have hu := rep_lit hk
    have hv := rep_lit hx
    subst hu hv
    split at h
    · rename_i he
      subst he
      simp only [Option.some.injEq] at h
      subst h
      exact ⟨rfl, fun h => by rw [beq_iff_eq.1 h], fun c hc => by cases c <;> simp_all [ckIs]⟩
    · cases h
  · have hu := rep_lit hk
    have hv := rep_lit hx
    subst hu hv
    simp only [Option.some.injEq] at h
    subst h
    refine ⟨?_, fun h => by rw [(Go.MapKept.bytes_beq _ _).1 h], fun c hc => by cases c <;> simp_all [ckIs]⟩
    exact beq_toListBytes _ _
  · have hu := rep_lit hk
    have hv := rep_lit hx
    subst hu hv
    simp only [Option.some.injEq] at h
    subst h
    exact ⟨rfl, fun h => by rw [beq_iff_eq.1 h], fun c hc => by cases c <;> simp_all [ckIs]⟩
  · cases h
theorem keyCells_val : ∀ {as bs : List AV} {us vs : List Value} {b : Bool}, keyCells as bs = some b → as.length = us.length → bs.length = vs.length → (∀ (j : Nat) (c : AV) (u : Value), as[j]? = some c → us[j]? = some u → Rep w W gb c u) → (∀ (j : Nat) (c : AV) (u : Value), bs[j]? = some c → vs[j]? = some u → Rep w W gb c u) →
    b = veqs us vs ∧ ∀ ks, kmatch ks us = true → kmatch ks vs = true := by
  intro as
  induction as with
  | nil =>
    intro bs us vs b h hl hl' _ _
    cases bs with
    | nil =>
      simp only [keyCells, Option.some.injEq] at h
      obtain rfl := List.eq_nil_of_length_eq_zero hl.symm
      obtain rfl := List.eq_nil_of_length_eq_zero hl'.symm
      exact ⟨h.symm, fun ks hk => hk⟩
    | cons _ _ => cases h
  | cons a as ih =>
    intro bs us vs b h hl hl' hr hr'
    cases bs with
    | nil => cases h
    | cons c bs =>
      cases us with
      | nil => simp at hl
      | cons u us =>
        cases vs with
        | nil => simp at hl'
        | cons v vs =>
          simp only [keyCells] at h
          split at h
          · rename_i x y hx hy
            simp only [Option.some.injEq] at h
            subst h
            obtain ⟨h1, _, h3⟩ := keyCell_val hx (hr 0 a u rfl rfl) (hr' 0 c v rfl rfl)
            obtain ⟨h4, h5⟩ := ih hy (by simpa using hl) (by simpa using hl') (fun j c u hc hu => hr (j + 1) c u hc hu) (fun j c u hc hu => hr' (j + 1) c u hc hu)
            refine ⟨by rw [h1, h4]; rfl, fun ks hk => ?_⟩
            cases ks with
            | nil => cases hk
            | cons k ks =>
              simp only [kmatch, Bool.and_eq_true] at hk ⊢
              exact ⟨h3 k hk.1, h5 ks hk.2⟩
          · cases h
theorem kmatchA_val : ∀ {ks : List CK} {cs : List AV} {us : List Value}, kmatchA ks cs = true → cs.length = us.length → (∀ (j : Nat) (c : AV) (u : Value), cs[j]? = some c → us[j]? = some u → Rep w W gb c u) → kmatch ks us = true := by
  intro ks
  induction ks with
  | nil =>
    intro cs us h hl _
    cases cs with
    | nil => obtain rfl := List.eq_nil_of_length_eq_zero hl.symm; rfl
    | cons _ _ => cases h
  | cons k ks ih =>
    intro cs us h hl hr
    cases cs with
    | nil => cases h
    | cons c cs =>
      cases us with
      | nil => simp at hl
      | cons u us =>
        cases c with
        | lit v =>
          simp only [kmatchA, Bool.and_eq_true] at h
          have h0 := rep_lit (hr 0 _ u rfl rfl)
          subst h0
          simp only [kmatch, Bool.and_eq_true]
          exact ⟨h.1, ih h.2 (by simpa using hl) fun j c u hc hu => hr (j + 1) c u hc hu⟩
        | _ => cases h
theorem keyEq_plain {k x : AV} (h : ∀ cs, k ≠ .agg cs) : keyEq k x = keyCell k x := by
  cases k <;> first | rfl | exact absurd rfl (h _)
theorem findNow_of {d : TypeDesc} {q : AV → Option Bool} {u : Value} (hs : ∀ x v b, q x = some b → Rep w W gb x v → Instr.sameNow d u v = some b) : ∀ (es : List ME) (ents : List MapEntry) (i : Nat) (r : Option (Nat × AV)), es.length = ents.length → (∀ (j : Nat) (e : ME) (x : MapEntry), es[j]? = some e → ents[j]? = some x → RepE w W gb e x) → gfind q es i = some r →
    (r = none ∧ Instr.findNow d u ents i = some none) ∨ ∃ j v x e, r = some (i + j, v) ∧ es[j]? = some e ∧ ents[j]? = some x ∧ v = e.val ∧ q e.key = some true ∧ Instr.findNow d u ents i = some (some (i + j, x.val)) := by
  intro es
  induction es with
  | nil =>
    intro ents i r hl _ hr
    simp only [gfind, Option.some.injEq] at hr
    obtain rfl := List.eq_nil_of_length_eq_zero hl.symm
    exact .inl ⟨hr.symm, rfl⟩
  | cons e es ih =>
    intro ents i r hl hrep hr
    cases ents with
    | nil => simp at hl
    | cons x ents =>
      have h0 := hrep 0 e x rfl rfl
      simp only [gfind] at hr
      split at hr
      · rename_i hb
        simp only [Option.some.injEq] at hr
        subst hr
        exact .inr ⟨0, e.val, x, e, rfl, rfl, rfl, rfl, hb, by simp [Instr.findNow, hs _ _ _ hb h0.key]⟩
      · rename_i hb
        rcases ih ents (i + 1) r (by simpa using hl) (fun j e x he hx => hrep (j + 1) e x he hx) hr with ⟨h1, h2⟩ | ⟨j, v, x', e', h1, h2, h3, h4, h5, h6⟩
        · exact .inl ⟨h1, by simp [Instr.findNow, hs _ _ _ hb h0.key, h2]⟩
        · refine .inr ⟨j + 1, v, x', e', by rw [h1]; congr 2; omega, h2, h3, h4, h5, ?_⟩
          simp only [Instr.findNow, hs _ _ _ hb h0.key, h6]
          congr 3; omega
      · cases hr
theorem findAsking_of {t : Nat} {q : AV → Option Bool} {u : Value} (hs : ∀ x v b, q x = some b → Rep w W gb x v → (Op.equal t u v).run P w = .ok b w) : ∀ (es : List ME) (ents : List MapEntry) (i : Nat) (r : Option (Nat × AV)), es.length = ents.length → (∀ (j : Nat) (e : ME) (x : MapEntry), es[j]? = some e → ents[j]? = some x → RepE w W gb e x) → gfind q es i = some r →
    (r = none ∧ (Instr.findAsking t u ents i).run P w = .ok none w) ∨ ∃ j v x e, r = some (i + j, v) ∧ es[j]? = some e ∧ ents[j]? = some x ∧ v = e.val ∧ q e.key = some true ∧ (Instr.findAsking t u ents i).run P w = .ok (some (i + j, x.val)) w := by
  intro es
  induction es with
  | nil =>
    intro ents i r hl _ hr
    simp only [gfind, Option.some.injEq] at hr
    obtain rfl := List.eq_nil_of_length_eq_zero hl.symm
    exact .inl ⟨hr.symm, by simp [Instr.findAsking]⟩
  | cons e es ih =>
    intro ents i r hl hrep hr
    cases ents with
    | nil => simp at hl
    | cons x ents =>
      have h0 := hrep 0 e x rfl rfl
      simp only [gfind] at hr
      split at hr
      · rename_i hb
        simp only [Option.some.injEq] at hr
        subst hr
        exact .inr ⟨0, e.val, x, e, rfl, rfl, rfl, rfl, hb, by simp [Instr.findAsking, hs _ _ _ hb h0.key]⟩
      · rename_i hb
        rcases ih ents (i + 1) r (by simpa using hl) (fun j e x he hx => hrep (j + 1) e x he hx) hr with ⟨h1, h2⟩ | ⟨j, v, x', e', h1, h2, h3, h4, h5, h6⟩
        · exact .inl ⟨h1, by simp [Instr.findAsking, hs _ _ _ hb h0.key, h2]⟩
        · refine .inr ⟨j + 1, v, x', e', by rw [h1]; congr 2; omega, h2, h3, h4, h5, ?_⟩
          simp only [Instr.findAsking, Sem.run_bind, hs _ _ _ hb h0.key, Result.andThen_ok, Bool.false_eq_true, if_false, h6]
          congr 3; omega
      · cases hr
def FindIs (P : Program) (w : World) (t : Nat) (q : AV → Option Bool) (u : Value) (es : List ME) (ents : List MapEntry) (r : Option (Nat × AV)) : Prop :=
  (r = none ∧ (Instr.findKey t u ents).run P w = .ok none w) ∨ ∃ j v x e, r = some (j, v) ∧ es[j]? = some e ∧ ents[j]? = some x ∧ v = e.val ∧ q e.key = some true ∧ (Instr.findKey t u ents).run P w = .ok (some (j, x.val)) w
structure IsKey (P : Program) (w : World) (W : Nat → Nat → Prop) (gb : Gb) (t : Nat) (q : AV → Option Bool) (u : Value) : Prop where
  check : ∀ em, (Instr.checkKey em 10000 t u).run P w = .ok () w
  stays : (Instr.keyThatStays u u).run P w = .ok u w
  same : ∀ x v, q x = some true → Rep w W gb x v → v = u
  find : ∀ (es : List ME) (ents : List MapEntry) (r : Option (Nat × AV)), es.length = ents.length → (∀ (j : Nat) (e : ME) (x : MapEntry), es[j]? = some e → ents[j]? = some x → RepE w W gb e x) → gfind q es 0 = some r → FindIs P w t q u es ents r
theorem isKey_scalar {t : Nat} {k : AV} {u : Value} {d : TypeDesc} (hd : P.underlying t = some d) (hr : Rep w W gb k u) (hk : ∀ cs, k ≠ .agg cs) (hs : ∀ x v b, keyEq k x = some b → Rep w W gb x v → Instr.sameNow d u v = some b) (hc : ∀ em, (Instr.checkKey em 10000 t u).run P w = .ok () w) (hst : (Instr.keyThatStays u u).run P w = .ok u w) : IsKey P w W gb t (keyEq k) u where
  check := hc
  stays := hst
  same := fun x v h hx => by
    rw [keyEq_plain hk] at h
    exact (keyCell_val h hr hx).2.1 rfl
  find := fun es ents r hl hrep hm => by
    rcases findNow_of hs es ents 0 r hl hrep hm with ⟨h1, h2⟩ | ⟨j, v, x, e, h1, h2, h3, h4, h5, h6⟩
    · exact .inl ⟨h1, Go.MapKept.run_findKey hd h2⟩
    · rw [Nat.zero_add] at h1 h6
      exact .inr ⟨j, v, x, e, h1, h2, h3, h4, h5, Go.MapKept.run_findKey hd h6⟩
theorem isKey_of {t : Nat} {k : AV} {u : Value} (hT : T.Ok P) (hk : keyKind T t k = true) (hr : Rep w W gb k u) : IsKey P w W gb t (keyEq k) u := by
  unfold keyKind at hk
  split at hk
  · rename_i kk m
    obtain ⟨k0, hk0⟩ := Option.isSome_iff_exists.1 hk
    have hu := rep_lit hr
    subst hu
    have hd := hT.ints _ (lk?_mem hk0)
    refine isKey_scalar hd hr (fun _ h => by cases h) (fun x v b hb hx => ?_) (fun em => ?_) ?_
    · rw [keyEq_plain (fun _ h => by cases h)] at hb
      unfold keyCell at hb
      split at hb
      · rename_i k1 m1 k2 m2 heq
        injection heq with heq
        injection heq with e1 e2
        subst e1 e2
        have hv := rep_lit hx
        subst hv
        split at hb
        · rename_i he
          subst he
          simp only [Option.some.injEq] at hb
          simp [Instr.sameNow, hb]
        · cases hb
      · rename_i heq; cases heq
      · rename_i heq; cases heq
      · cases hb
    · have : ∀ (d : Nat) (e : Bool), (Instr.checkKey e (d + 1) t (.int kk m)).run P w = .ok () w := fun d e => by simp [Instr.checkKey, run_underlying hd]
      exact this 9999 em
    · have : ∀ d : Nat, Instr.sameBits (d + 1) (.int kk m) (.int kk m) = true := fun d => by simp [Instr.sameBits]
      simp [Instr.keyThatStays, this 9999]
  · rename_i b0
    have hu := rep_lit hr
    subst hu
    have hd := hT.strs _ (List.elem_iff.1 hk)
    refine isKey_scalar hd hr (fun _ h => by cases h) (fun x v b hb hx => ?_) (fun em => ?_) ?_
    · rw [keyEq_plain (fun _ h => by cases h)] at hb
      unfold keyCell at hb
      split at hb
      · rename_i heq; cases heq
      · rename_i s1 s2 heq
        injection heq with heq
        injection heq with e1
        subst e1
        have hv := rep_lit hx
        subst hv
        simp only [Option.some.injEq] at hb
        simp [Instr.sameNow, hb]
      · rename_i heq; cases heq
      · cases hb
    · have : ∀ (d : Nat) (e : Bool), (Instr.checkKey e (d + 1) t (.string b0)).run P w = .ok () w := fun d e => by simp [Instr.checkKey, run_underlying hd]
      exact this 9999 em
    · exact MapKept.run_keyThatStays (d := .string) trivial
  · rename_i b0
    have hu := rep_lit hr
    subst hu
    have hd := hT.bools _ (List.elem_iff.1 hk)
    refine isKey_scalar hd hr (fun _ h => by cases h) (fun x v b hb hx => ?_) (fun em => ?_) ?_
    · rw [keyEq_plain (fun _ h => by cases h)] at hb
      unfold keyCell at hb
      split at hb
      · rename_i heq; cases heq
      · rename_i heq; cases heq
      · rename_i s1 s2 heq
        injection heq with heq
        injection heq with e1
        subst e1
        have hv := rep_lit hx
        subst hv
        simp only [Option.some.injEq] at hb
        simp [Instr.sameNow, hb]
      · cases hb
    · have : ∀ (d : Nat) (e : Bool), (Instr.checkKey e (d + 1) t (.bool b0)).run P w = .ok () w := fun d e => by simp [Instr.checkKey, run_underlying hd]
      exact this 9999 em
    · exact MapKept.run_keyThatStays (d := .bool) trivial
  · rename_i cs
    cases hr with
    | agg _ us hl h1 hr =>
      split at hk
      · rename_i ks hks
        obtain ⟨hf, ha⟩ := hT.keys _ (lk?_mem hks)
        have hm := kmatchA_val hk hl hr
        have hw : (match P.underlying t with | some (.array _ _) | some (.struct _) => true | _ => false) = true := by
          unfold aggTy at ha
          split at ha <;> simp_all
        have hq : ∀ x v b, keyEq (.agg cs) x = some b → Rep w W gb x v → (Op.equal t (.agg us.toArray) v).run P w = .ok b w ∧ (b = true → v = .agg us.toArray) := fun x v b hb hx => by
          cases x with
          | agg bs =>
            cases hx with
            | agg _ vs hl' h1' hr' =>
              obtain ⟨e, hkm⟩ := keyCells_val hb hl hl' hr hr'
              have := eq_flat 8 9992 t ks hf us vs w hm (hkm ks hm)
              rw [ha] at this
              subst e
              exact ⟨this, fun hb => by rw [veqs_same hm (hkm ks hm) hb]⟩
          | _ => cases hb
        refine ⟨fun em => ?_, ?_, fun x v h hx => (hq x v true h hx).2 rfl, fun es ents r hle hrep hmf => ?_⟩
        · have := ck_flat em 8 9992 t ks hf us w hm
          rw [ha] at this
          exact this
        · simp [Instr.keyThatStays, sameBits_flat hm]
        · unfold FindIs
          rw [run_findKey_eq w hw]
          rcases findAsking_of (fun x v b h hx => (hq x v b h hx).1) es ents 0 r hle hrep hmf with h | ⟨j, v, x, e, h1, h2, h3, h4, h5, h6⟩
          · exact .inl h
          · rw [Nat.zero_add] at h1 h6
            exact .inr ⟨j, v, x, e, h1, h2, h3, h4, h5, h6⟩
      · cases hk
  · cases hk
theorem findKey_ptr {t e : TypeId} (hd : P.underlying t = some (.pointer e)) (x : Value) (es : List MapEntry) (w : World) : (Instr.findKey t x es).run P w = (Instr.findAsking t x es).run P w := by
  unfold Instr.findKey
  rw [Sem.run_bind, run_underlying hd, Result.andThen_ok]
  cases es with
  | nil => rfl
  | cons a es =>
    have : Instr.sameNow (.pointer e) x a.key = none := by unfold Instr.sameNow; rfl
    simp only [Instr.findNow, this]
theorem run_sizeOf_info {e : TypeId} {i : TypeInfo} (h : P.info? e = some i) (w : World) : (Go.sizeOf e).run P w = .ok i.size w := by
  simp [Go.sizeOf, typeInfo, h]
theorem sameAddr_var (h : HeapOk P w F gb H n) {i j p q : Nat} {g g' s s' : Nat} (hi : isVar (H i) = true) (hj : isVar (H j) = true) (hg : gb i = some (g, s)) (hg' : gb j = some (g', s')) :
    (sameAddr ⟨g, p, none⟩ ⟨g', q, none⟩).run P w = .ok (Nat.beq i j && Nat.beq p q) w := by
  by_cases hij : i = j
  · subst hij
    rw [hg] at hg'
    injection hg' with hg'
    injection hg' with e1 e2
    subst e1
    have e1 : Nat.beq i i = true := Nat.beq_refl i
    rw [e1, Bool.true_and]
    by_cases hpq : p = q
    · subst hpq
      rw [Nat.beq_refl]
      exact run_sameAddr_same w _
    · have : Nat.beq p q = false := by rw [← Bool.not_eq_true]; intro h'; exact hpq (Nat.eq_of_beq_eq_true h')
      rw [this]
      simp [sameAddr, hpq]
  · have e1 : Nat.beq i j = false := by rw [← Bool.not_eq_true]; intro h'; exact hij (Nat.eq_of_beq_eq_true h')
    rw [e1, Bool.false_and]
    have var : ∀ {k b t}, isVar (H k) = true → gb k = some (b, t) → ∃ c e, w.heap[b]? = some (.cells c e (0, 0)) := by
      intro k b t hv hb
      unfold isVar at hv
      split at hv
      · rename_i cs ho
        rcases h.live k _ ho with ⟨b', t', hb', c, e, fr, h1, hf, _⟩ | ⟨_, m, e, he⟩
        · rw [hb] at hb'
          injection hb' with hb'
          injection hb' with e1 _
          subst e1
          rw [hf] at h1
          exact ⟨c, e, h1⟩
        · cases he
      · cases hv
    obtain ⟨c, e, h1⟩ := var hi hg
    obtain ⟨c', e', h1'⟩ := var hj hg'
    have hne : g ≠ g' := by
      intro e
      subst e
      have ex : ∀ {k}, isVar (H k) = true → exO (H k) := fun {k} hv => by
        unfold isVar at hv
        split at hv
        · rename_i ho; rw [ho]; trivial
        · cases hv
      exact hij (h.one i j g s s' hg hg' (ex hi) (ex hj))
    exact run_sameAddr_other w (a := ⟨g, p, none⟩) (b := ⟨g', q, none⟩) (fun e => hne (by injection e)) h1 h1'
theorem isKeyH_of (h : HeapOk P w F gb H n) {t : Nat} {k : AV} {u : Value} (hT : T.Ok P) (hk : keyKindH T H t k = true) (hr : Rep w (Wr F gb H) gb k u) : IsKey P w (Wr F gb H) gb t (keyQ H k) u := by
  unfold keyKindH at hk
  split at hk
  · rename_i i off
    rw [Bool.and_eq_true] at hk
    have hb := hT.pks t (List.elem_iff.1 hk.1)
    unfold pkB at hb
    split at hb
    · rename_i e hd
      split at hb
      · rename_i inf hinf
        have hsz : inf.size ≠ 0 := fun e => by rw [e] at hb; cases hb
        cases hr with
        | ptr _ _ g size hg =>
          have hq : ∀ x v b, keyQ H (.ptr i off) x = some b → Rep w (Wr F gb H) gb x v → (Op.equal t (.pointer (some ⟨g, off, none⟩)) v).run P w = .ok b w ∧ (b = true → v = .pointer (some ⟨g, off, none⟩)) := fun x v b hb hx => by
            have hb' : keyPtr H i off x = some b := hb
            unfold keyPtr at hb'
            split at hb'
            · rename_i j p
              cases hv : isVar (H j) with
              | false => rw [hv] at hb'; cases hb'
              | true =>
                rw [hv] at hb'
                simp only [cond_true, Option.some.injEq] at hb'
                cases hx with
                | ptr _ _ g' size' hg' =>
                  have hs := sameAddr_var (P := P) (p := off) (q := p) h hk.2 hv hg hg'
                  refine ⟨?_, fun hbt => ?_⟩
                  · have : ∀ d, (Op.equalIn (d + 1) t (.pointer (some ⟨g, off, none⟩)) (.pointer (some ⟨g', p, none⟩))).run P w = .ok b w := fun d => by
                      rw [← hb', ← hs]
                      simp [Op.equalIn, run_underlying hd, run_sizeOf_info hinf, hsz]
                    exact this 9999
                  · rw [hbt, Bool.and_eq_true] at hb'
                    have e1 := Nat.eq_of_beq_eq_true hb'.1
                    have e2 := Nat.eq_of_beq_eq_true hb'.2
                    subst e1 e2
                    rw [hg] at hg'
                    injection hg' with hg'
                    injection hg' with e1 _
                    rw [e1]
            · cases hb'
          refine ⟨fun em => ?_, ?_, fun x v h hx => (hq x v true h hx).2 rfl, fun es ents r hle hrep hmf => ?_⟩
          · have : ∀ (d : Nat) (em : Bool), (Instr.checkKey em (d + 1) t (.pointer (some ⟨g, off, none⟩))).run P w = .ok () w := fun d em => by simp [Instr.checkKey, run_underlying hd]
            exact this 9999 em
          · have : ∀ d : Nat, Instr.sameBits d (.pointer (some ⟨g, off, none⟩)) (.pointer (some ⟨g, off, none⟩)) = true := fun d => by cases d <;> simp [Instr.sameBits]
            simp [Instr.keyThatStays, this 10000]
          · unfold FindIs
            rw [findKey_ptr hd]
            rcases findAsking_of (fun x v b h hx => (hq x v b h hx).1) es ents 0 r hle hrep hmf with h | ⟨j, v, x, e, h1, h2, h3, h4, h5, h6⟩
            · exact .inl h
            · rw [Nat.zero_add] at h1 h6
              exact .inr ⟨j, v, x, e, h1, h2, h3, h4, h5, h6⟩
      · cases hb
    · cases hb
  · rename_i hn
    have : keyQ H k = keyEq k := by
      cases k <;> first | rfl | exact absurd rfl (hn _ _)
    rw [this]
    exact isKey_of hT hk hr
theorem rep_map (h : HeapOk P w F gb H n) {id : Nat} {v : Value} {es : List ME} {clock : Nat} (hx : Rep w (Wr F gb H) gb (.mp id) v) (ho : H id = some (.map es clock)) : ∃ g size ents, gb id = some (g, size) ∧ v = .map (some g) ∧ w.heap[g]? = some (.map ents clock) ∧ es.length = ents.size ∧
    ∀ (j : Nat) (e : ME) (x : MapEntry), es[j]? = some e → ents[j]? = some x → RepE w (Wr F gb H) gb e x := by
  cases hx with
  | mp _ g size hg =>
    rcases h.live id _ ho with ⟨g', size', hg', ents, h1, h2, h3⟩ | ⟨hg', m, e, he⟩
    · rw [hg] at hg'
      injection hg' with hg'
      injection hg' with e1 e2
      subst e1 e2
      exact ⟨g, size, ents, hg, rfl, h1, h2, h3⟩
    · cases he
theorem v_look {t : TypeId} {x k : Operand} {ok : Bool} {r : AV} (hop : o.op = .lookup t x k ok) (hT : T.Ok P) (h : alook T s.heap t (s.eval x) (s.eval k) ok = some r) (g : Good P N F w0 gb0 H0 s a w gb) : ∃ u, (execOp a.eval o).run P w = .ok (.value u) w ∧ Rep w (Wr F gb s.heap) gb r u := by
  unfold alook at h
  split at h
  · rename_i I hI
    obtain ⟨hu, hz⟩ := hT.maps _ (lk?_mem hI)
    cases hkk : keyKindH T s.heap I.key (s.eval k) with
    | false => rw [hkk] at h; cases h
    | true =>
      rw [hkk] at h
      simp only [cond_true] at h
      have hik := isKeyH_of g.ok hT hkk (g.eval k)
      have hx := g.eval x
      simp only [kfind_g] at h
      have tupR : ∀ {v : AV} {u : Value} (b : Bool), Rep w (Wr F gb s.heap) gb v u → Rep w (Wr F gb s.heap) gb (bif ok then .tup [v, .lit (.bool b)] else v) (if ok then .tuple #[u, .bool b] else u) := by
        intro v u b hv
        cases ok with
        | true =>
          refine Rep.tup [v, .lit (.bool b)] [u, .bool b] rfl fun j c y hc hy => ?_
          match j with
          | 0 => simp only [List.getElem?_cons_zero, Option.some.injEq] at hc hy; subst hc hy; exact hv
          | 1 => simp only [List.getElem?_cons_succ, List.getElem?_cons_zero, Option.some.injEq] at hc hy; subst hc hy; exact .lit _
          | j + 2 => simp at hc
        | false => exact hv
      have hck := hik.check
      have fin : ∀ (es : Array MapEntry) (rr : Option (Nat × Value)) (v : AV) (u : Value) (b : Bool), (a.eval x = .map none ∧ es = #[] ∨ ∃ g clock, a.eval x = .map (some g) ∧ w.heap[g]? = some (.map es clock)) → (Instr.findKey I.key (a.eval k) es.toList).run P w = .ok rr w → (match rr with | some (_, y) => u = y ∧ b = true | none => u = I.zero ∧ b = false) → Rep w (Wr F gb s.heap) gb v u → r = (bif ok then .tup [v, .lit (.bool b)] else v) →
          ∃ u, (execOp a.eval o).run P w = .ok (.value u) w ∧ Rep w (Wr F gb s.heap) gb r u := by
        intro es rr v u b hm hf hrr hv hr
        subst hr
        refine ⟨_, ?_, tupR b hv⟩
        unfold execOp
        simp only [hop]
        rw [Sem.run_bind]
        unfold Instr.lookup
        rcases hm with ⟨hm, rfl⟩ | ⟨gg, clock, hm, hb⟩
        · simp only [hm, Sem.run_bind, run_underlying hu, Result.andThen_ok, Sem.run_pure, hck, hf]
          cases rr with
          | some p => obtain ⟨rfl, rfl⟩ := hrr; cases ok <;> simp
          | none => obtain ⟨rfl, rfl⟩ := hrr; cases ok <;> simp [run_zero_some hz]
        · simp only [hm, Sem.run_bind, run_underlying hu, Result.andThen_ok, Sem.run_pure, hck, hf, MapKept.run_getObj_map hb]
          cases rr with
          | some p => obtain ⟨rfl, rfl⟩ := hrr; cases ok <;> simp
          | none => obtain ⟨rfl, rfl⟩ := hrr; cases ok <;> simp [run_zero_some hz]
      split at h
      · rename_i j v hm
        simp only [Option.some.injEq] at h
        split at hm
        · rename_i id hxe
          rw [hxe] at hx
          split at hm
          · rename_i es clock ho'
            obtain ⟨gg, size, ents, hg, hv, hb, hl, hrep⟩ := rep_map g.ok hx ho'
            rcases hik.find es ents.toList _ (by simpa using hl) (fun j e x he hx => hrep j e x he (by simpa using hx)) hm with ⟨h1, _⟩ | ⟨j', v', x', e', h1, h2, h3, h4, _, h6⟩
            · cases h1
            · injection h1 with h1
              injection h1 with e1 e2
              subst e2 h4
              exact fin ents _ _ x'.val true (.inr ⟨gg, clock, hv, hb⟩) h6 ⟨rfl, rfl⟩ (hrep j' e' x' h2 (by simpa using h3)).val h.symm
          · cases hm
        · cases hm
        · cases hm
      · rename_i hm
        simp only [Option.some.injEq] at h
        split at hm
        · rename_i id hxe
          rw [hxe] at hx
          split at hm
          · rename_i es clock ho'
            obtain ⟨gg, size, ents, hg, hv, hb, hl, hrep⟩ := rep_map g.ok hx ho'
            rcases hik.find es ents.toList _ (by simpa using hl) (fun j e x he hx => hrep j e x he (by simpa using hx)) hm with ⟨_, h2⟩ | ⟨j', v', x', e', h1, _⟩
            · exact fin ents none _ I.zero false (.inr ⟨gg, clock, hv, hb⟩) h2 ⟨rfl, rfl⟩ (.lit _) h.symm
            · cases h1
          · cases hm
        · rename_i hxe
          rw [hxe] at hx
          exact fin #[] none _ I.zero false (.inl ⟨rep_lit hx, rfl⟩) (by rcases hik.find [] [] none rfl (fun j e x he => by simp at he) rfl with ⟨_, h2⟩ | ⟨_, _, _, _, h1, _⟩; exact h2; cases h1) ⟨rfl, rfl⟩ (.lit _) h.symm
        · cases hm
      · cases h
  · cases h
end
end Go.Proofs.Ytheanmfdfoefoaa.Hv
set_option linter.unusedVariables false
set_option linter.unusedSimpArgs false
namespace Go.Proofs.Ytheanmfdfoefoaa.Hv
open Go Go.RowKit

section
variable {P : Program} {T : Tbl} {N : Nat} {F : Nat → Nat → Prop} {w0 w w' : World} {gb0 gb gb' : Gb} {H0 H H' : Hp} {s : AS} {a : Act} {n n' : Nat} {W : Nat → Nat → Prop} {o : Oper}
theorem v_len {c : Call} {x : Operand} {t : TypeId} {ts : List TypeId} {m : Int} (ho : o.op = .call c) (hc : c.callee = .builtin .len) (hx : c.args.toList = [x]) (ht : c.argTypes.toList = t :: ts) (hT : T.Ok P) (hn : alen T s.heap t (s.eval x) = some m) (g : Good P N F w0 gb0 H0 s a w gb) : ∃ u, (execOp a.eval o).run P w = .ok (.value u) w ∧ Rep w (Wr F gb s.heap) gb (.lit (.int .i64 m)) u := by
  obtain ⟨callee, args, argTypes⟩ := c
  obtain rfl : args = #[x] := Array.toList_inj.1 hx
  have ht' : argTypes[0]? = some t := by rw [← Array.getElem?_toList, ht]; rfl
  simp only at hc
  subst hc
  refine ⟨.int .i64 m, ?_, .lit _⟩
  unfold execOp
  simp only [ho]
  have he := g.eval x
  have gen : ∀ I items, lk? T.sls t = some I → (s.eval x).its? s.heap = some items → (items.length : Int) = m → (do let d ← resolve a.eval { callee := .builtin .len, args := #[x], argTypes := argTypes } o.type; invoke d.target d.args : Sem Next).run P w = .ok (.value (.int .i64 m)) w := by
    intro I items hI hit hm
    subst hm
    obtain ⟨sz, A, cc, b, off, val, hi, hv, _⟩ := rep_its g.ok he hit
    simp [resolve, invoke, builtin, Builtin.len_, hv, ht', run_underlying (sls_ok hT hI).ht, goInt]
  unfold alen at hn
  split at hn
  · rename_i u hu
    rw [hu] at he
    have hv := rep_lit he
    cases hst : T.strs.elem t with
    | false => rw [hst] at hn; cases hn
    | true =>
      rw [hst] at hn
      simp only [cond_true, Option.some.injEq] at hn
      subst hn
      simp [resolve, invoke, builtin, hv, Builtin.len_, ht', run_underlying (hT.strs t (List.elem_iff.1 hst)), goInt]
  · rename_i id hu
    rw [hu] at he
    split at hn
    · rename_i I es clock hI ho'
      simp only [Option.some.injEq] at hn
      subst hn
      obtain ⟨gg, size, ents, hg, hv, hb, hl, hrep⟩ := rep_map g.ok he ho'
      obtain ⟨hu', _⟩ := hT.maps _ (lk?_mem hI)
      simp [resolve, invoke, builtin, hv, Builtin.len_, ht', run_underlying hu', Go.MapKept.run_getObj_map hb, goInt, hl]
    · cases hn
  · rename_i id sz ko len hu
    rw [Option.map_eq_some_iff] at hn
    obtain ⟨I, hI, rfl⟩ := hn
    rw [hu] at he
    have : ∃ A c, a.eval x = .slice A len c := by
      generalize a.eval x = v at he
      cases he <;> exact ⟨_, _, rfl⟩
    obtain ⟨A, c, hv⟩ := this
    simp [resolve, invoke, builtin, Builtin.len_, hv, ht', run_underlying (sls_ok hT hI).ht, goInt]
  · rename_i id off len hu
    rw [Option.map_eq_some_iff] at hn
    obtain ⟨I, hI, rfl⟩ := hn
    rw [hu] at he
    have : ∃ A c, a.eval x = .slice A len c := by
      generalize a.eval x = v at he
      cases he <;> exact ⟨_, _, rfl⟩
    obtain ⟨A, c, hv⟩ := this
    simp [resolve, invoke, builtin, Builtin.len_, hv, ht', run_underlying (sls_ok hT hI).ht, goInt]
  · rename_i id sz len c hu
    rw [Option.map_eq_some_iff] at hn
    obtain ⟨I, hI, rfl⟩ := hn
    rw [hu] at he
    have : ∃ A c, a.eval x = .slice A len c := by
      generalize a.eval x = v at he
      cases he <;> exact ⟨_, _, rfl⟩
    obtain ⟨A, c, hv⟩ := this
    simp [resolve, invoke, builtin, Builtin.len_, hv, ht', run_underlying (sls_ok hT hI).ht, goInt]
  · rw [Option.bind_eq_some_iff] at hn
    obtain ⟨I, hI, hn⟩ := hn
    rw [Option.map_eq_some_iff] at hn
    obtain ⟨items, hit, hm⟩ := hn
    exact gen I items hI hit hm
theorem v_cap {c : Call} {x : Operand} {t : TypeId} {ts : List TypeId} {m : Int} (ho : o.op = .call c) (hc : c.callee = .builtin .cap) (hx : c.args.toList = [x]) (ht : c.argTypes.toList = t :: ts) (hT : T.Ok P) (hn : acap T t (s.eval x) = some m) (g : Good P N F w0 gb0 H0 s a w gb) : ∃ u, (execOp a.eval o).run P w = .ok (.value u) w ∧ Rep w (Wr F gb s.heap) gb (.lit (.int .i64 m)) u := by
  obtain ⟨callee, args, argTypes⟩ := c
  obtain rfl : args = #[x] := Array.toList_inj.1 hx
  have ht' : argTypes[0]? = some t := by rw [← Array.getElem?_toList, ht]; rfl
  simp only at hc
  subst hc
  refine ⟨.int .i64 m, ?_, .lit _⟩
  unfold execOp
  simp only [ho]
  have he := g.eval x
  unfold acap at hn
  split at hn
  · rename_i id sz len c hu
    rw [Option.map_eq_some_iff] at hn
    obtain ⟨I, hI, rfl⟩ := hn
    rw [hu] at he
    have : ∃ A l, a.eval x = .slice A l c := by
      generalize a.eval x = v at he
      cases he <;> exact ⟨_, _, rfl⟩
    obtain ⟨A, l, hv⟩ := this
    simp [resolve, invoke, builtin, Builtin.cap_, hv, ht', run_underlying (sls_ok hT hI).ht, goInt]
  · cases hn
theorem v_min {c : Call} {x y : Operand} {k k' : IntKind} {m m' : Int} (ho : o.op = .call c) (hc : c.callee = .builtin .min) (hx : c.args.toList = [x, y]) (hm : (s.eval x).int? = some (k, m)) (hn : (s.eval y).int? = some (k', m')) (g : Good P N F w0 gb0 H0 s a w gb) : ∃ u, (execOp a.eval o).run P w = .ok (.value u) w ∧ Rep w (Wr F gb s.heap) gb (.lit (.int k (if m' < m then m' else m))) u := by
  obtain ⟨callee, args, argTypes⟩ := c
  obtain rfl : args = #[x, y] := Array.toList_inj.1 hx
  simp only at hc
  subst hc
  refine ⟨_, ?_, .lit _⟩
  unfold execOp
  simp [ho, resolve, invoke, builtin, rep_int (g.eval x) hm, rep_int (g.eval y) hn, Builtin.min_, Builtin.min2]
theorem v_max {c : Call} {x y : Operand} {k k' : IntKind} {m m' : Int} (ho : o.op = .call c) (hc : c.callee = .builtin .max) (hx : c.args.toList = [x, y]) (hm : (s.eval x).int? = some (k, m)) (hn : (s.eval y).int? = some (k', m')) (g : Good P N F w0 gb0 H0 s a w gb) : ∃ u, (execOp a.eval o).run P w = .ok (.value u) w ∧ Rep w (Wr F gb s.heap) gb (.lit (.int k (if m' > m then m' else m))) u := by
  obtain ⟨callee, args, argTypes⟩ := c
  obtain rfl : args = #[x, y] := Array.toList_inj.1 hx
  simp only at hc
  subst hc
  refine ⟨_, ?_, .lit _⟩
  unfold execOp
  simp [ho, resolve, invoke, builtin, rep_int (g.eval x) hm, rep_int (g.eval y) hn, Builtin.max_, Builtin.max2]
theorem v_minS {c : Call} {x y : Operand} {p q : ByteArray} (ho : o.op = .call c) (hc : c.callee = .builtin .min) (hx : c.args.toList = [x, y]) (hm : (s.eval x).str? = some p) (hn : (s.eval y).str? = some q) (g : Good P N F w0 gb0 H0 s a w gb) : ∃ u, (execOp a.eval o).run P w = .ok (.value u) w ∧ Rep w (Wr F gb s.heap) gb (.lit (.string (smin p q))) u := by
  obtain ⟨callee, args, argTypes⟩ := c
  obtain rfl : args = #[x, y] := Array.toList_inj.1 hx
  simp only at hc
  subst hc
  refine ⟨_, ?_, .lit _⟩
  unfold execOp
  simp [ho, resolve, invoke, builtin, rep_str? (g.eval x) hm, rep_str? (g.eval y) hn, run_smin]
theorem v_maxS {c : Call} {x y : Operand} {p q : ByteArray} (ho : o.op = .call c) (hc : c.callee = .builtin .max) (hx : c.args.toList = [x, y]) (hm : (s.eval x).str? = some p) (hn : (s.eval y).str? = some q) (g : Good P N F w0 gb0 H0 s a w gb) : ∃ u, (execOp a.eval o).run P w = .ok (.value u) w ∧ Rep w (Wr F gb s.heap) gb (.lit (.string (smax p q))) u := by
  obtain ⟨callee, args, argTypes⟩ := c
  obtain rfl : args = #[x, y] := Array.toList_inj.1 hx
  simp only at hc
  subst hc
  refine ⟨_, ?_, .lit _⟩
  unfold execOp
  simp [ho, resolve, invoke, builtin, rep_str? (g.eval x) hm, rep_str? (g.eval y) hn, run_smax]
theorem find_born {ents : Array MapEntry} {es : List ME} {b : Nat} {e : ME} (hl : es.length = ents.size) (hrep : ∀ (j : Nat) (e : ME) (x : MapEntry), es[j]? = some e → ents[j]? = some x → RepE w W gb e x) (hf : es.find? (fun e => e.born == b) = some e) :
    ∃ x, ents.find? (fun x => x.born == b) = some x ∧ RepE w W gb e x := by
  have key : ∀ (es : List ME) (l : List MapEntry), es.length = l.length → (∀ (j : Nat) (e : ME) (x : MapEntry), es[j]? = some e → l[j]? = some x → RepE w W gb e x) → es.find? (fun e => e.born == b) = some e → ∃ x, l.find? (fun x => x.born == b) = some x ∧ RepE w W gb e x := by
    intro es
    induction es with
    | nil => intro l _ _ h; cases h
    | cons e0 es ih =>
      intro l hl hr h
      cases l with
      | nil => simp at hl
      | cons x l =>
        have h0 := hr 0 e0 x rfl rfl
        rw [List.find?_cons] at h ⊢
        rw [h0.born]
        cases hb : (e0.born == b) with
        | true =>
          rw [hb] at h
          simp only [Option.some.injEq] at h
          subst h
          exact ⟨x, rfl, h0⟩
        | false =>
          rw [hb] at h
          exact ih l (by simpa using hl) (fun j e x he hx => hr (j + 1) e x he hx) h
  obtain ⟨x, h1, h2⟩ := key es ents.toList (by simpa using hl) (fun j e x he hx => hrep j e x he (by simpa using hx)) hf
  exact ⟨x, by rw [← Array.find?_toList]; exact h1, h2⟩
theorem v_entry {x : Operand} {r : AV} (hop : o.op = .entry x) (h : aentry s.heap (s.eval x) = some r) (g : Good P N F w0 gb0 H0 s a w gb) : ∃ u, (execOp a.eval o).run P w = .ok (.value u) w ∧ Rep w (Wr F gb s.heap) gb r u := by
  have hx := g.eval x
  unfold aentry at h
  split at h
  · rename_i id hxe
    split at h
    · rename_i m since seen last ho
      split at h
      · rename_i es clock hm
        split at h
        · rename_i b hb
          split at h
          · rename_i hcl
            split at h
            · rename_i e he
              simp only [Option.some.injEq] at h
              subst h hcl
              rw [hxe] at hx
              generalize hv : a.eval x = v at hx
              cases hx with
              | ptr _ _ gi size hg =>
                rcases g.ok.live id _ ho with ⟨g', size', hg', mb, h1, h2⟩ | ⟨_, m', e', he'⟩
                · rw [hg] at hg'
                  injection hg' with hg'
                  injection hg' with e1 e2
                  subst e1 e2
                  cases mb with
                  | none => exact h1.elim
                  | some gm =>
                    obtain ⟨sm, hsm⟩ := h1
                    obtain ⟨gm', size', ents, hg2, hv2, hb2, hl2, hrep⟩ := rep_map g.ok (Rep.mp m gm sm hsm) hm
                    rw [hsm] at hg2
                    injection hg2 with hg2
                    injection hg2 with e1 e2
                    subst e1 e2
                    obtain ⟨xe, hxf, hre⟩ := find_born hl2 hrep he
                    refine ⟨.tuple #[xe.key, xe.val], ?_, ?_⟩
                    · unfold execOp
                      simp only [hop, hv]
                      rw [Sem.run_bind]
                      have hback : seen.toArray.back? = some b := by rw [← hb]; simp [List.getLast?_eq_getElem?, Array.back?]
                      have h2' : (getObj gi).run P w = .ok (.mapIter (some gm) since seen.toArray clock) w := by simp [getObj, Sem.run, h2]
                      simp [Instr.entry, h2', Go.MapKept.run_getObj_map hb2, hxf, hb]
                    · refine Rep.tup [e.key, e.val] [xe.key, xe.val] rfl fun j c y hc hy => ?_
                      match j with
                      | 0 => simp only [List.getElem?_cons_zero, Option.some.injEq] at hc hy; subst hc hy; exact hre.key
                      | 1 => simp only [List.getElem?_cons_succ, List.getElem?_cons_zero, Option.some.injEq] at hc hy; subst hc hy; exact hre.val
                      | j + 2 => simp at hc
                · cases he'
            · cases h
          · cases h
        · cases h
      · cases h
    · cases h
  · cases h
theorem fval_sound {v : AV} (hT : T.Ok P) (h : fval T s.heap o.op s.eval = some v) (g : Good P N F w0 gb0 H0 s a w gb) : ∃ u, (execOp a.eval o).run P w = .ok (.value u) w ∧ Rep w (Wr F gb s.heap) gb v u := by
  unfold fval at h
  split at h
  · rename_i x hop
    simp only [Option.some.injEq] at h; subst h
    exact ⟨a.eval x, by unfold execOp; simp only [hop]; rfl, g.eval x⟩
  · rename_i x hop
    simp only [Option.some.injEq] at h; subst h
    exact ⟨a.eval x, by unfold execOp; simp only [hop]; rfl, g.eval x⟩
  · rename_i c x y hop
    split at h
    · rename_i b hb
      simp only [Option.some.injEq] at h; subst h
      have hc := rep_bool (g.eval c) hb
      exact ⟨if b then a.eval x else a.eval y, by unfold execOp; simp only [hop, hc, asBool]; rfl, rep_pick (g.eval x) (g.eval y)⟩
    · cases h
  · rename_i op t x y ty hop
    split at h
    · rename_i r hr
      simp only [Option.some.injEq] at h; subst h
      refine ⟨r, ?_, .lit r⟩
      unfold execOp
      simp only [hop]
      rw [Sem.run_bind, binv_run hT (g.eval x) (g.eval y) hr x y]
      rfl
    · cases h
  · rename_i op t x hop
    split at h
    · rename_i u hu
      split at h
      · rename_i r hr
        simp only [Option.some.injEq] at h; subst h
        refine ⟨r, ?_, .lit r⟩
        unfold execOp
        simp only [hop, rep_lit? (g.eval x) hu]
        rw [Sem.run_bind, aun_run hr]
        rfl
      · cases h
    · cases h
  · rename_i t x hop
    exact v_load hop hT h g
  · rename_i t x f hop
    exact v_fld hop hT h g
  · rename_i t x i hop
    split at h
    · rename_i k m hi
      exact v_idx hop hT hi h g
    · cases h
  · rename_i t x i hop
    split at h
    · rename_i u k m hx hi
      cases ht : T.strs.elem t with
      | true => rw [ht] at h; exact v_index hop hT hx hi ht h g
      | false => rw [ht] at h; cases h
    · rename_i cs k m hx hi
      split at h
      · rename_i len e sz ha
        exact v_indexA hop hT hx hi ha h g
      · cases h
    · cases h
  · rename_i t x k ok hop
    exact v_look hop hT h g
  · rename_i t parts hop
    split at h
    · rename_i z pl hz hpl
      split at h
      · rename_i h1
        split at h
        · rename_i cs hcs
          simp only [Option.some.injEq] at h; subst h
          exact v_build hop hT hz h1 hpl hcs g
        · cases h
      · cases h
    · cases h
  · rename_i x i hop
    split at h
    · rename_i cs hx
      exact v_ext hop hx h g
    · cases h
  · rename_i t x lo hi hop
    exact v_slice hop hT h g
  · rename_i t0 t x hop
    split at h
    · rename_i k0 k k' m h1 h2 h3
      simp only [Option.some.injEq] at h; subst h
      exact v_conv hop hT h1 h2 h3 g
    · cases hb : (T.byts.elem t0 && T.strs.elem t) with
      | false => rw [hb] at h; cases h
      | true =>
        rw [hb] at h
        rw [Bool.and_eq_true] at hb
        simp only [cond_true] at h
        split at h
        · rename_i items hit
          split at h
          · rename_i l hl
            simp only [Option.some.injEq] at h; subst h
            exact v_bytes hop hT hb.1 hb.2 hit hl g
          · cases h
        · cases h
  · rename_i x hop
    cases hb : nonNil (s.eval x) with
    | true => rw [hb] at h; simp only [cond_true, Option.some.injEq] at h; subst h; exact v_nil hop hb g
    | false => rw [hb] at h; cases h
  · rename_i f first caps hop
    split at h
    · rename_i h0
      obtain rfl : first = #[] := Array.toList_inj.1 h0
      simp only [Option.some.injEq] at h; subst h
      exact v_fn hop g
    · cases h
  · rename_i x hop
    exact v_entry hop h g
  · rename_i c hop
    split at h
    · rename_i x t ts hc hx ht
      split at h
      · rename_i m hm
        simp only [Option.some.injEq] at h; subst h
        exact v_len hop hc hx ht hT hm g
      · cases h
    · rename_i x t ts hc hx ht
      split at h
      · rename_i m hm
        simp only [Option.some.injEq] at h; subst h
        exact v_cap hop hc hx ht hT hm g
      · cases h
    · rename_i x y _ hc hx
      split at h
      · rename_i k m k' m' h1 h2
        simp only [Option.some.injEq] at h; subst h
        exact v_min hop hc hx h1 h2 g
      · split at h
        · rename_i p q h1 h2
          simp only [Option.some.injEq] at h; subst h
          exact v_minS hop hc hx h1 h2 g
        · cases h
    · rename_i x y _ hc hx
      split at h
      · rename_i k m k' m' h1 h2
        simp only [Option.some.injEq] at h; subst h
        exact v_max hop hc hx h1 h2 g
      · split at h
        · rename_i p q h1 h2
          simp only [Option.some.injEq] at h; subst h
          exact v_maxS hop hc hx h1 h2 g
        · cases h
    · cases h
  · cases h
end
end Go.Proofs.Ytheanmfdfoefoaa.Hv
