/- Abstract values over an abstract heap: what slots of a frame are worth, and what the objects behind numbers hold; when a world makes them true. Plain: no program in sight. -/
import Derived.Test.YtheanmfdfoefoaaKit
set_option linter.unusedVariables false
set_option linter.unusedSimpArgs false
namespace Go.Proofs.Ytheanmfdfoefoaa.Hv
open Go Go.RowKit

/-- What a slot is worth: a value as it is; a struct; several results; a slice to read for ever (its things, each a list of cells); an address to read from for ever; a piece of a row (the row's number, a thing's cells, from which thing, how many); an address in a variable (its number); in a thing of a row; a map's number; a function with what it captured; nothing known. -/
inductive AV where
  | lit (v : Value)
  | agg (cs : List AV)
  | tup (vs : List AV)
  | sl (items : List (List AV))
  | ref (cs : List AV)
  | rw (id sz ko len : Nat)
  | ptr (id off : Nat)
  | el (id sz k off : Nat)
  | mp (id : Nat)
  | fn (f : FuncId) (caps : List AV)
  | dead
  deriving Inhabited
/-- An entry of a map. -/
structure ME where
  key : AV
  val : AV
  born : Nat
  deriving Inhabited
/-- What a number stands for: a variable's cells; a row that may be appended to (m: and written in); a row that may only be read; a map; a walk through a map. -/
inductive AO where
  | cells (cs : List AV)
  | row (m : Bool) (e : TypeId) (items : List (List AV))
  | frz (e : TypeId) (items : List (List AV))
  | map (es : List ME) (clock : Nat)
  | iter (m : Option Nat) (since : Nat) (seen : List Nat) (last : Nat)
abbrev Hp := Nat → Option AO
/-- Numbers' blocks, and how many cells these have. -/
abbrev Gb := Nat → Option (Nat × Nat)

/-- In the world w the value v is worth that; all cells that it reads for ever lie outside W. -/
inductive Rep (w : World) (W : Nat → Nat → Prop) (gb : Gb) : AV → Value → Prop
  | lit (v : Value) : Rep w W gb (.lit v) v
  | agg (cs : List AV) (vs : List Value) (hl : cs.length = vs.length) (h1 : ∀ u ∈ vs, u.oneCell' = true) (h : ∀ (j : Nat) (c : AV) (u : Value), cs[j]? = some c → vs[j]? = some u → Rep w W gb c u) : Rep w W gb (.agg cs) (.agg vs.toArray)
  | tup (cs : List AV) (vs : List Value) (hl : cs.length = vs.length) (h : ∀ (j : Nat) (c : AV) (u : Value), cs[j]? = some c → vs[j]? = some u → Rep w W gb c u) : Rep w W gb (.tup cs) (.tuple vs.toArray)
  | sl (items : List (List AV)) (sz : Nat) (A : Option Addr) (c b off : Nat) (val : Nat → Value) (hi : ∀ it ∈ items, it.length = sz) (hc : items.length ≤ c) (hm : c ≤ maxLen) (ha : items ≠ [] → A = some ⟨b, off, none⟩)
      (hcell : ∀ (j : Nat) (x : AV), items.flatten[j]? = some x → w.cell? ⟨b, off + j, none⟩ = some (val j)) (hF : ∀ (j : Nat) (x : AV), items.flatten[j]? = some x → ¬ W b (off + j))
      (h1 : ∀ (j : Nat) (x : AV), items.flatten[j]? = some x → (val j).oneCell' = true) (hr : ∀ (j : Nat) (x : AV), items.flatten[j]? = some x → Rep w W gb x (val j)) : Rep w W gb (.sl items) (.slice A items.length c)
  | ref (cs : List AV) (b off : Nat) (val : Nat → Value) (hcell : ∀ (j : Nat) (x : AV), cs[j]? = some x → w.cell? ⟨b, off + j, none⟩ = some (val j)) (hF : ∀ (j : Nat) (x : AV), cs[j]? = some x → ¬ W b (off + j))
      (h1 : ∀ (j : Nat) (x : AV), cs[j]? = some x → (val j).oneCell' = true) (hr : ∀ (j : Nat) (x : AV), cs[j]? = some x → Rep w W gb x (val j)) : Rep w W gb (.ref cs) (.pointer (some ⟨b, off, none⟩))
  | rw (id sz ko len g size c : Nat) (hg : gb id = some (g, size)) (hs : ko * sz + c * sz ≤ size) (hc : len ≤ c) (hm : c ≤ maxLen) : Rep w W gb (.rw id sz ko len) (.slice (some ⟨g, ko * sz, none⟩) len c)
  | rwn (id sz : Nat) : Rep w W gb (.rw id sz 0 0) (.slice none 0 0)
  | rwz (id sz ko off g size : Nat) (hg : gb id = some (g, size)) : Rep w W gb (.rw id sz ko 0) (.slice (some ⟨g, off, none⟩) 0 0)
  | ptr (id off g size : Nat) (hg : gb id = some (g, size)) : Rep w W gb (.ptr id off) (.pointer (some ⟨g, off, none⟩))
  | el (id sz k off g size : Nat) (hg : gb id = some (g, size)) : Rep w W gb (.el id sz k off) (.pointer (some ⟨g, k * sz + off, none⟩))
  | mp (id g size : Nat) (hg : gb id = some (g, size)) : Rep w W gb (.mp id) (.map (some g))
  | fn (f : FuncId) (cs : List AV) (vs : List Value) (hl : cs.length = vs.length) (h : ∀ (j : Nat) (c : AV) (u : Value), cs[j]? = some c → vs[j]? = some u → Rep w W gb c u) : Rep w W gb (.fn f cs) (.func (.func f) #[] vs.toArray)
  | dead (v : Value) : Rep w W gb .dead v

/-- What gb knows gb' knows too. -/
def Ext (gb gb' : Gb) : Prop := ∀ id p, gb id = some p → gb' id = some p
theorem Ext.refl (gb : Gb) : Ext gb gb := fun _ _ h => h
theorem Ext.trans {a b c : Gb} (h : Ext a b) (h' : Ext b c) : Ext a c := fun id p hp => h' id p (h id p hp)
theorem Rep.keep {w w' : World} {W W' : Nat → Nat → Prop} {gb gb' : Gb} {a : AV} {v : Value} (h : Rep w W gb a v)
    (hk : ∀ b o u, ¬ W b o → w.cell? ⟨b, o, none⟩ = some u → w'.cell? ⟨b, o, none⟩ = some u ∧ ¬ W' b o) (he : Ext gb gb') : Rep w' W' gb' a v := by
  induction h with
  | lit v => exact .lit v
  | agg cs vs hl h1 _ ih => exact .agg cs vs hl h1 ih
  | tup cs vs hl _ ih => exact .tup cs vs hl ih
  | sl items sz A c b off val hi hc hm ha hcell hF h1 _ ih =>
    exact .sl items sz A c b off val hi hc hm ha (fun j x hx => (hk _ _ _ (hF j x hx) (hcell j x hx)).1) (fun j x hx => (hk _ _ _ (hF j x hx) (hcell j x hx)).2) h1 ih
  | ref cs b off val hcell hF h1 _ ih =>
    exact .ref cs b off val (fun j x hx => (hk _ _ _ (hF j x hx) (hcell j x hx)).1) (fun j x hx => (hk _ _ _ (hF j x hx) (hcell j x hx)).2) h1 ih
  | rw id sz ko len g size c hg hs hc hm => exact .rw id sz ko len g size c (he _ _ hg) hs hc hm
  | rwn id sz => exact .rwn id sz
  | rwz id sz ko off g size hg => exact .rwz id sz ko off g size (he _ _ hg)
  | ptr id off g size hg => exact .ptr id off g size (he _ _ hg)
  | el id sz k off g size hg => exact .el id sz k off g size (he _ _ hg)
  | mp id g size hg => exact .mp id g size (he _ _ hg)
  | fn f cs vs hl _ ih => exact .fn f cs vs hl ih
  | dead v => exact .dead v

theorem cell_lt {w : World} {b o : Nat} {u : Value} (h : w.cell? ⟨b, o, none⟩ = some u) : b < w.heap.size := World.block_lt_of_cell? w _ h

/-! ### lists of cells -/
structure RepL (w : World) (W : Nat → Nat → Prop) (gb : Gb) (cs : List AV) (us : List Value) : Prop where
  len : cs.length = us.length
  one : ∀ u ∈ us, u.oneCell' = true
  rep : ∀ (j : Nat) (c : AV) (u : Value), cs[j]? = some c → us[j]? = some u → Rep w W gb c u
section
variable {w w' : World} {W W' : Nat → Nat → Prop} {gb gb' : Gb}
theorem RepL.keep {cs : List AV} {us : List Value} (h : RepL w W gb cs us) (hk : ∀ b o u, ¬ W b o → w.cell? ⟨b, o, none⟩ = some u → w'.cell? ⟨b, o, none⟩ = some u ∧ ¬ W' b o) (he : Ext gb gb') : RepL w' W' gb' cs us :=
  ⟨h.len, h.one, fun j c u hc hu => (h.rep j c u hc hu).keep hk he⟩
theorem RepL.nil : RepL w W gb [] [] := ⟨rfl, by simp, by simp⟩
theorem RepL.append {cs ds : List AV} {us vs : List Value} (h : RepL w W gb cs us) (h' : RepL w W gb ds vs) : RepL w W gb (cs ++ ds) (us ++ vs) := by
  refine ⟨by simp [h.len, h'.len], fun u hu => (List.mem_append.1 hu).elim (h.one u) (h'.one u), fun j c u hc hu => ?_⟩
  by_cases hj : j < cs.length
  · rw [List.getElem?_append_left hj] at hc
    rw [List.getElem?_append_left (by rw [← h.len]; exact hj)] at hu
    exact h.rep j c u hc hu
  · rw [List.getElem?_append_right (by omega)] at hc
    rw [List.getElem?_append_right (by rw [← h.len]; omega), ← h.len] at hu
    exact h'.rep _ c u hc hu
theorem RepL.take {cs : List AV} {us : List Value} (h : RepL w W gb cs us) (n : Nat) : RepL w W gb (cs.take n) (us.take n) := by
  refine ⟨by simp [h.len], fun u hu => h.one u (List.mem_of_mem_take hu), fun j c u hc hu => ?_⟩
  rw [List.getElem?_take] at hc hu
  split at hc
  · rename_i hj
    rw [if_pos hj] at hu
    exact h.rep j c u hc hu
  · cases hc
theorem RepL.drop {cs : List AV} {us : List Value} (h : RepL w W gb cs us) (n : Nat) : RepL w W gb (cs.drop n) (us.drop n) := by
  refine ⟨by simp [h.len], fun u hu => h.one u (List.mem_of_mem_drop hu), fun j c u hc hu => ?_⟩
  rw [List.getElem?_drop] at hc hu
  exact h.rep _ c u hc hu
theorem flatten_at {items : List (List AV)} {sz : Nat} (hi : ∀ it ∈ items, it.length = sz) {k j : Nat} {it : List AV} {x : AV} (hk : items[k]? = some it) (hj : it[j]? = some x) : items.flatten[k * sz + j]? = some x := by
  induction items generalizing k with
  | nil => simp at hk
  | cons i items ih =>
    have h0 := hi i (by simp)
    cases k with
    | zero =>
      simp only [List.getElem?_cons_zero, Option.some.injEq] at hk
      subst hk
      have hlt := (List.getElem?_eq_some_iff.1 hj).1
      rw [List.flatten_cons, Nat.zero_mul, Nat.zero_add, List.getElem?_append_left hlt]; exact hj
    | succ k =>
      rw [List.flatten_cons, List.getElem?_append_right (by rw [h0, Nat.succ_mul]; omega), h0, show (k + 1) * sz + j - sz = k * sz + j from by rw [Nat.succ_mul]; omega]
      exact ih (fun it h => hi it (by simp [h])) (by simpa using hk)
theorem flatten_len {items : List (List AV)} {sz : Nat} (hi : ∀ it ∈ items, it.length = sz) : items.flatten.length = items.length * sz := by
  induction items with
  | nil => simp
  | cons i items ih => rw [List.flatten_cons, List.length_append, hi i (by simp), ih fun it h => hi it (by simp [h]), List.length_cons, Nat.succ_mul]; omega
def setR (l : List AV) (off : Nat) (cs : List AV) : List AV := l.take off ++ cs ++ l.drop (off + cs.length)
theorem RepL.setR {cs ds : List AV} {us vs : List Value} (h : RepL w W gb cs us) (h' : RepL w W gb ds vs) (off : Nat) : RepL w W gb (setR cs off ds) (us.take off ++ vs ++ us.drop (off + vs.length)) := by
  unfold Hv.setR
  rw [h'.len]
  exact ((h.take off).append h').append (h.drop _)
end

/-! ### objects -/
/-- May this cell of the object still be written? -/
def wrO : Option AO → Nat → Prop
  | some (.cells _), _ => True
  | some (.row true _ _), _ => True
  | some (.row false _ items), o => items.flatten.length ≤ o
  | _, _ => False
/-- Is its block nobody else's? -/
def exO : Option AO → Prop
  | some (.frz _ _) | none => False
  | _ => True
def Wh (gb : Gb) (H : Hp) (b o : Nat) : Prop := ∃ id s, gb id = some (b, s) ∧ wrO (H id) o
def Xh (gb : Gb) (H : Hp) (b : Nat) : Prop := ∃ id s, gb id = some (b, s) ∧ exO (H id)
def Wr (F : Nat → Nat → Prop) (gb : Gb) (H : Hp) (b o : Nat) : Prop := F b o ∨ Wh gb H b o
def szOf (P : Program) (e : TypeId) : Nat := ((P.info? e).map (·.size)).getD 0
structure RepE (w : World) (W : Nat → Nat → Prop) (gb : Gb) (e : ME) (x : MapEntry) : Prop where
  born : x.born = e.born
  key : Rep w W gb e.key x.key
  val : Rep w W gb e.val x.val
def mblk (gb : Gb) : Option Nat → Option Nat → Prop
  | none, none => True
  | some id, some g => ∃ s, gb id = some (g, s)
  | _, _ => False
/-- No cell of it is shut against writing. -/
def Cold (size : Nat) (fr : Nat × Nat) : Prop := fr.2 ≤ fr.1 ∨ size ≤ fr.1
def ObjRep (P : Program) (w : World) (W : Nat → Nat → Prop) (gb : Gb) (g size : Nat) : AO → Prop
  | .cells cs => ∃ cur e fr, w.heap[g]? = some (.cells cur e fr) ∧ Cold size fr ∧ cur.size = size ∧ RepL w W gb cs cur.toList
  | .row _ e items => (∀ it ∈ items, it.length = szOf P e) ∧ ∃ cur fr, w.heap[g]? = some (.cells cur e fr) ∧ Cold size fr ∧ cur.size = size ∧ items.flatten.length ≤ size ∧ RepL w W gb items.flatten (cur.toList.take items.flatten.length)
  | .frz e items => (∀ it ∈ items, it.length = szOf P e) ∧ ∃ cur fr, w.heap[g]? = some (.cells cur e fr) ∧ Cold size fr ∧ cur.size = size ∧ items.flatten.length ≤ size ∧ RepL w W gb items.flatten (cur.toList.take items.flatten.length) ∧ ∀ o, o < items.flatten.length → ¬ W g o
  | .map es clock => ∃ ents : Array MapEntry, w.heap[g]? = some (.map ents clock) ∧ es.length = ents.size ∧ ∀ (j : Nat) (e : ME) (x : MapEntry), es[j]? = some e → ents[j]? = some x → RepE w W gb e x
  | .iter m since seen last => ∃ mb, mblk gb m mb ∧ w.heap[g]? = some (.mapIter mb since seen.toArray last)
def Live (P : Program) (w : World) (W : Nat → Nat → Prop) (gb : Gb) (id : Nat) (o : AO) : Prop :=
  (∃ g size, gb id = some (g, size) ∧ ObjRep P w W gb g size o) ∨ (gb id = none ∧ ∃ m e, o = .row m e [])
structure HeapOk (P : Program) (w : World) (F : Nat → Nat → Prop) (gb : Gb) (H : Hp) (n : Nat) : Prop where
  lt : ∀ id g s, gb id = some (g, s) → id < n ∧ g < w.heap.size
  new : ∀ id, n ≤ id → H id = none
  live : ∀ id o, H id = some o → Live P w (Wr F gb H) gb id o
  one : ∀ i j g s t, gb i = some (g, s) → gb j = some (g, t) → exO (H i) → exO (H j) → i = j
  FB : ∀ b o, F b o → b < w.heap.size
  FX : ∀ b o, F b o → ¬ Xh gb H b
/-- From w to w' nothing is changed but blocks of X, and of cells none but those of W. -/
structure Kept (X : Nat → Prop) (W : Nat → Nat → Prop) (w w' : World) : Prop where
  os : w'.os = w.os
  tape : w'.tape = w.tape
  output : w'.output = w.output
  size : w.heap.size ≤ w'.heap.size
  block : ∀ k, k < w.heap.size → ¬ X k → w'.heap[k]? = w.heap[k]?
  cell : ∀ b o u, ¬ W b o → w.cell? ⟨b, o, none⟩ = some u → w'.cell? ⟨b, o, none⟩ = some u
theorem Kept.refl (X : Nat → Prop) (W : Nat → Nat → Prop) (w : World) : Kept X W w w := ⟨rfl, rfl, rfl, Nat.le_refl _, fun _ _ _ => rfl, fun _ _ _ _ h => h⟩
theorem Kept.of_below {X : Nat → Prop} {W : Nat → Nat → Prop} {w w' : World} (h : Below w.heap.size w w') : Kept X W w w' :=
  ⟨h.os, h.tape, h.output, h.size, fun k hk _ => h.block k hk, fun b o u _ hc => (h.cell (p := ⟨b, o, none⟩) (cell_lt hc)).trans hc⟩
theorem Kept.to_below {w w' : World} {W : Nat → Nat → Prop} (h : Kept (fun _ => False) W w w') : Below w.heap.size w w' := ⟨h.os, h.tape, h.output, h.size, fun k hk => h.block k hk fun hx => hx⟩
theorem Kept.trans {X X' : Nat → Prop} {W W' : Nat → Nat → Prop} {w w' w'' : World} (h : Kept X W w w') (h' : Kept X' W' w' w'') (hx : ∀ k, k < w.heap.size → X' k → X k) (hw : ∀ b o, b < w.heap.size → W' b o → W b o) : Kept X W w w'' :=
  ⟨h'.os.trans h.os, h'.tape.trans h.tape, h'.output.trans h.output, Nat.le_trans h.size h'.size, fun k hk hn => (h'.block k (Nat.lt_of_lt_of_le hk h.size) fun hx' => hn (hx k hk hx')).trans (h.block k hk hn),
    fun b o u hn hc => h'.cell b o u (fun hw' => hn (hw b o (cell_lt hc) hw')) (h.cell b o u hn hc)⟩

/-! ### states -/
structure AS where
  env : List (Nat × AV)
  heap : Hp
  next : Nat
def lkp {α : Type} (d : α) : List (Nat × α) → Nat → α
  | [], _ => d
  | (k, a) :: r, t => bif Nat.beq k t then a else lkp d r t
def AS.get (s : AS) (t : Nat) : AV := lkp .dead s.env t
def AS.set (s : AS) (d : Nat) (v : AV) : AS := ⟨(d, v) :: s.env, s.heap, s.next⟩
def AS.put (s : AS) (d : Option Nat) (v : AV) : AS := match d with | some d => s.set d v | none => s
def upd (H : Hp) (i : Nat) (o : Option AO) : Hp := fun j => bif Nat.beq i j then o else H j
theorem upd_at (H : Hp) (i j : Nat) (o : Option AO) : upd H i o j = bif Nat.beq i j then o else H j := rfl
theorem upd_same (H : Hp) (i : Nat) (o : Option AO) : upd H i o i = o := by unfold upd; simp
theorem upd_other {H : Hp} {i j : Nat} {o : Option AO} (h : i ≠ j) : upd H i o j = H j := by
  unfold upd
  have : Nat.beq i j = false := by rw [← Bool.not_eq_true]; intro h'; exact h (Nat.eq_of_beq_eq_true h')
  rw [this]; rfl
def isNilV : Value → Bool | .slice none 0 0 => true | _ => false
theorem lkp_map {α β : Type} (f : α → β) (d : α) (l : List (Nat × α)) (t : Nat) : lkp (f d) (l.map fun p => (p.1, f p.2)) t = f (lkp d l t) := by
  induction l with
  | nil => rfl
  | cons p l ih =>
    simp only [List.map_cons, lkp, ih]
    cases Nat.beq p.1 t <;> rfl
theorem AS.get_set (s : AS) (d t : Nat) (v : AV) : (s.set d v).get t = if t = d then v else s.get t := by
  unfold AS.get AS.set
  show (bif Nat.beq d t then v else lkp .dead s.env t) = _
  by_cases h : t = d
  · subst h; simp
  · have : Nat.beq d t = false := by
      rw [← Bool.not_eq_true]; intro h'; exact h (Nat.eq_of_beq_eq_true h').symm
    simp [this, h]
/-- A frame, begun at the world w0 over the heap H0, in the world w. -/
structure Good (P : Program) (N : Nat) (F : Nat → Nat → Prop) (w0 : World) (gb0 : Gb) (H0 : Hp) (s : AS) (a : Act) (w : World) (gb : Gb) : Prop where
  kept : Kept (Xh gb0 H0) (Wh gb0 H0) w0 w
  ext : Ext gb0 gb
  ok : HeapOk P w F gb s.heap s.next
  wr0 : ∀ b o, b < w0.heap.size → Wh gb s.heap b o → Wh gb0 H0 b o
  x0 : ∀ b, b < w0.heap.size → Xh gb s.heap b → Xh gb0 H0 b
  size : a.tmps.size = N
  defers : a.defers = []
  slots : ∀ t, Rep w (Wr F gb s.heap) gb (s.get t) (a.tmps.getD t undef)
def R (P : Program) (N : Nat) (F : Nat → Nat → Prop) (w0 : World) (gb0 : Gb) (H0 : Hp) (s : AS) (a : Act) (w : World) : Prop := ∃ gb, Good P N F w0 gb0 H0 s a w gb

section
variable {P : Program} {N : Nat} {F : Nat → Nat → Prop} {w0 w w' : World} {gb0 gb gb' : Gb} {H0 H H' : Hp} {s : AS} {a : Act} {n n' : Nat}
theorem getD_put {a : Act} {d t : Nat} {v : Value} (hd : d < a.tmps.size) : (a.put (some d) v).tmps.getD t undef = if t = d then v else a.tmps.getD t undef := by
  show (a.tmps.setIfInBounds d v).getD t undef = _
  by_cases h : t = d
  · subst h; simp [hd]
  · have h' : d ≠ t := fun e => h e.symm
    simp only [h, if_false]
    simp only [Array.getD_eq_getD_getElem?]
    rw [Array.getElem?_setIfInBounds_ne h']
theorem size_put {a : Act} {d : Option Nat} {v : Value} : (a.put d v).tmps.size = a.tmps.size := by
  cases d with
  | none => rfl
  | some d => show (a.tmps.setIfInBounds d v).size = _; simp
theorem defers_put {a : Act} {d : Option Nat} {v : Value} : (a.put d v).defers = a.defers := by
  cases d <;> rfl
theorem put_heap {d : Option Nat} {x : AV} : (s.put d x).heap = s.heap := by cases d <;> rfl
theorem put_next {d : Option Nat} {x : AV} : (s.put d x).next = s.next := by cases d <;> rfl
theorem Good.put {d : Option Nat} {x : AV} {v : Value} (h : Good P N F w0 gb0 H0 s a w gb) (hd : ∀ k, d = some k → k < N) (hx : Rep w (Wr F gb s.heap) gb x v) : Good P N F w0 gb0 H0 (s.put d x) (a.put d v) w gb := by
  cases d with
  | none => exact h
  | some d =>
    have hd' : d < a.tmps.size := by rw [h.size]; exact hd d rfl
    refine ⟨h.kept, h.ext, h.ok, h.wr0, h.x0, size_put.trans h.size, defers_put.trans h.defers, fun t => ?_⟩
    rw [getD_put hd']
    show Rep w _ gb ((s.set d x).get t) _
    rw [AS.get_set]
    split
    · exact hx
    · exact h.slots t
theorem Good.dead {d : Option Nat} {v : Value} (h : Good P N F w0 gb0 H0 s a w gb) (hd : ∀ k, d = some k → k < N) : Good P N F w0 gb0 H0 (s.put d .dead) (a.put d v) w gb := h.put hd (.dead _)
theorem wrO_exO {o : Option AO} {k : Nat} (h : wrO o k) : exO o := by
  unfold wrO at h
  split at h <;> first | trivial | exact h.elim
theorem Wh.x {b o : Nat} (h : Wh gb H b o) : Xh gb H b := by
  obtain ⟨id, s, h1, h2⟩ := h
  exact ⟨id, s, h1, wrO_exO h2⟩
/-- What is there stays, and there may be more: the state is as good. -/
theorem ObjRep.keep {W W' : Nat → Nat → Prop} {g size : Nat} {o : AO} (h : ObjRep P w W gb g size o) (hb : w'.heap[g]? = w.heap[g]?) (hk : ∀ b o u, ¬ W b o → w.cell? ⟨b, o, none⟩ = some u → w'.cell? ⟨b, o, none⟩ = some u ∧ ¬ W' b o) (he : Ext gb gb') : ObjRep P w' W' gb' g size o := by
  cases o with
  | cells cs =>
    obtain ⟨cur, e, fr, h1, hf, h2, h3⟩ := h
    exact ⟨cur, e, fr, hb.trans h1, hf, h2, h3.keep hk he⟩
  | row m e items =>
    obtain ⟨h0, cur, fr, h1, hf, h2, h3, h4⟩ := h
    exact ⟨h0, cur, fr, hb.trans h1, hf, h2, h3, h4.keep hk he⟩
  | frz e items =>
    obtain ⟨h0, cur, fr, h1, hf, h2, h3, h4, h5⟩ := h
    refine ⟨h0, cur, fr, hb.trans h1, hf, h2, h3, h4.keep hk he, fun o ho => ?_⟩
    have hlt : o < cur.size := by omega
    exact (hk g o cur[o] (h5 o ho) (by simp [World.cell?, h1, hlt])).2
  | map es clock =>
    obtain ⟨ents, h1, h2, h3⟩ := h
    exact ⟨ents, hb.trans h1, h2, fun j e x hj hx => ⟨(h3 j e x hj hx).born, (h3 j e x hj hx).key.keep hk he, (h3 j e x hj hx).val.keep hk he⟩⟩
  | iter m since seen last =>
    obtain ⟨mb, h1, h2⟩ := h
    refine ⟨mb, ?_, hb.trans h2⟩
    unfold mblk at h1 ⊢
    split at h1
    · trivial
    · obtain ⟨s, hs⟩ := h1; exact ⟨s, he _ _ hs⟩
    · exact h1.elim
/-- Over a world in which all that is there stays. -/
theorem HeapOk.world (h : HeapOk P w F gb H n) (hb : Below w.heap.size w w') : HeapOk P w' F gb H n := by
  have hk : ∀ b o u, ¬ Wr F gb H b o → w.cell? ⟨b, o, none⟩ = some u → w'.cell? ⟨b, o, none⟩ = some u ∧ ¬ Wr F gb H b o := fun b o u hn hc => ⟨(hb.cell (p := ⟨_, _, none⟩) (cell_lt hc)).trans hc, hn⟩
  refine ⟨fun id g s hg => ⟨(h.lt id g s hg).1, Nat.lt_of_lt_of_le (h.lt id g s hg).2 hb.size⟩, h.new, fun id o ho => ?_, h.one, fun b o hf => Nat.lt_of_lt_of_le (h.FB b o hf) hb.size, h.FX⟩
  rcases h.live id o ho with ⟨g, size, hg, hr⟩ | hr
  · exact .inl ⟨g, size, hg, hr.keep (hb.block g (h.lt id g size hg).2) hk (Ext.refl _)⟩
  · exact .inr hr
theorem Good.world (h : Good P N F w0 gb0 H0 s a w gb) (hb : Below w.heap.size w w') : Good P N F w0 gb0 H0 s a w' gb :=
  { h with
    kept := h.kept.trans (.of_below (X := fun _ => False) (W := fun _ _ => False) hb) (fun _ _ hx => hx.elim) (fun _ _ _ hx => hx.elim)
    ok := h.ok.world hb
    slots := fun t => (h.slots t).keep (fun b o u hn hc => ⟨(hb.cell (p := ⟨_, _, none⟩) (cell_lt hc)).trans hc, hn⟩) (Ext.refl _) }
end
end Go.Proofs.Ytheanmfdfoefoaa.Hv
