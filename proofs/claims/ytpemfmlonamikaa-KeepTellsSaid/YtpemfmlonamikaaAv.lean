/- Abstract values: what slots of a frame are worth, said without addresses; when a world makes them true. Plain: no program in sight. -/
import Derived.Test.YtpemfmlonamikaaKit
namespace Go.Proofs.Ytpemfmlonamikaa.Av
open Go Go.RowKit

/-- What a slot is worth: a value as it is; a struct; several results; a slice to read (its things, each a list of cells); an address to read from; a row that may be appended to (its number, its things' type); an address of a variable of the frame's own; nothing known. -/
inductive AV where
  | lit (v : Value)
  | agg (cs : List AV)
  | tup (vs : List AV)
  | sl (items : List (List AV))
  | ref (cs : List AV)
  | own (id : Nat) (e : TypeId) (items : List (List AV))
  | ptr (id off : Nat)
  | dead
  deriving Inhabited

/-- In the world w the value v is worth that; all cells that it reads lie outside F. -/
inductive Rep (w : World) (F : Nat → Nat → Prop) : AV → Value → Prop
  | lit (v : Value) : Rep w F (.lit v) v
  | agg (cs : List AV) (vs : List Value) (hl : cs.length = vs.length) (h1 : ∀ u ∈ vs, u.oneCell' = true) (h : ∀ (j : Nat) (c : AV) (u : Value), cs[j]? = some c → vs[j]? = some u → Rep w F c u) : Rep w F (.agg cs) (.agg vs.toArray)
  | tup (cs : List AV) (vs : List Value) (hl : cs.length = vs.length) (h : ∀ (j : Nat) (c : AV) (u : Value), cs[j]? = some c → vs[j]? = some u → Rep w F c u) : Rep w F (.tup cs) (.tuple vs.toArray)
  | sl (items : List (List AV)) (sz : Nat) (A : Option Addr) (c b off : Nat) (val : Nat → Value) (hi : ∀ it ∈ items, it.length = sz) (hc : items.length ≤ c) (hm : c ≤ maxLen) (ha : items ≠ [] → A = some ⟨b, off, none⟩)
      (hcell : ∀ (j : Nat) (x : AV), items.flatten[j]? = some x → w.cell? ⟨b, off + j, none⟩ = some (val j)) (hF : ∀ (j : Nat) (x : AV), items.flatten[j]? = some x → ¬ F b (off + j))
      (h1 : ∀ (j : Nat) (x : AV), items.flatten[j]? = some x → (val j).oneCell' = true) (hr : ∀ (j : Nat) (x : AV), items.flatten[j]? = some x → Rep w F x (val j)) : Rep w F (.sl items) (.slice A items.length c)
  | ref (cs : List AV) (b off : Nat) (val : Nat → Value) (hcell : ∀ (j : Nat) (x : AV), cs[j]? = some x → w.cell? ⟨b, off + j, none⟩ = some (val j)) (hF : ∀ (j : Nat) (x : AV), cs[j]? = some x → ¬ F b (off + j))
      (h1 : ∀ (j : Nat) (x : AV), cs[j]? = some x → (val j).oneCell' = true) (hr : ∀ (j : Nat) (x : AV), cs[j]? = some x → Rep w F x (val j)) : Rep w F (.ref cs) (.pointer (some ⟨b, off, none⟩))

theorem Rep.keep {w w' : World} {F F' : Nat → Nat → Prop} {a : AV} {v : Value} (h : Rep w F a v)
    (hk : ∀ b o u, ¬ F b o → w.cell? ⟨b, o, none⟩ = some u → w'.cell? ⟨b, o, none⟩ = some u ∧ ¬ F' b o) : Rep w' F' a v := by
  induction h with
  | lit v => exact .lit v
  | agg cs vs hl h1 _ ih => exact .agg cs vs hl h1 ih
  | tup cs vs hl _ ih => exact .tup cs vs hl ih
  | sl items sz A c b off val hi hc hm ha hcell hF h1 _ ih =>
    exact .sl items sz A c b off val hi hc hm ha (fun j x hx => (hk _ _ _ (hF j x hx) (hcell j x hx)).1) (fun j x hx => (hk _ _ _ (hF j x hx) (hcell j x hx)).2) h1 ih
  | ref cs b off val hcell hF h1 _ ih =>
    exact .ref cs b off val (fun j x hx => (hk _ _ _ (hF j x hx) (hcell j x hx)).1) (fun j x hx => (hk _ _ _ (hF j x hx) (hcell j x hx)).2) h1 ih

theorem cell_lt {w : World} {b o : Nat} {u : Value} (h : w.cell? ⟨b, o, none⟩ = some u) : b < w.heap.size := World.block_lt_of_cell? w _ h
/-- Over whatever leaves old memory as it was. -/
theorem Rep.over {w w' : World} {F : Nat → Nat → Prop} {a : AV} {v : Value} (h : Rep w F a v) (hb : Below w.heap.size w w') : Rep w' F a v :=
  h.keep fun _ _ _ hF hc => ⟨(hb.cell (p := ⟨_, _, none⟩) (cell_lt hc)).trans hc, hF⟩

/-! ### states -/
structure AS where
  env : List (Nat × AV)
  box : List (Nat × List AV)
def lkp {α : Type} (d : α) : List (Nat × α) → Nat → α
  | [], _ => d
  | (k, a) :: r, t => bif Nat.beq k t then a else lkp d r t
def AS.get (s : AS) (t : Nat) : AV := lkp .dead s.env t
def AS.getb (s : AS) (id : Nat) : Option (List AV) := lkp none (s.box.map fun p => (p.1, some p.2)) id
def AS.set (s : AS) (d : Nat) (v : AV) : AS := ⟨(d, v) :: s.env, s.box⟩
def AS.put (s : AS) (d : Option Nat) (v : AV) : AS := match d with | some d => s.set d v | none => s
/-- The row number id is nobody's any longer; what it held may be read. -/
def AV.deown (id : Nat) : AV → AV
  | .own i e items => bif Nat.beq i id then .sl items else .own i e items
  | a => a
def AS.deown (s : AS) (id : Nat) : AS := ⟨s.env.map fun p => (p.1, p.2.deown id), s.box⟩
def isNilV : Value → Bool | .slice none 0 0 => true | _ => false
/-- What others may see of it. -/
def AV.view : AV → AV
  | .own _ _ items => .sl items
  | .ptr _ _ => .dead
  | .lit v => bif isNilV v then .sl [] else .lit v
  | a => a
/-- Addresses of the frame's variable id are known no longer. -/
def AV.unptr (id : Nat) : AV → AV
  | .ptr i o => bif Nat.beq i id then .dead else .ptr i o
  | a => a
def AS.unptr (s : AS) (id : Nat) : AS := ⟨s.env.map fun p => (p.1, p.2.unptr id), s.box⟩

theorem lkp_map {α β : Type} (f : α → β) (d : α) (l : List (Nat × α)) (t : Nat) : lkp (f d) (l.map fun p => (p.1, f p.2)) t = f (lkp d l t) := by
  induction l with
  | nil => rfl
  | cons p l ih =>
    simp only [List.map_cons, lkp, ih]
    cases Nat.beq p.1 t <;> rfl
theorem AS.get_set (s : AS) (d t : Nat) (v : AV) : (s.set d v).get t = if t = d then v else s.get t := by
  unfold AS.get AS.set
  show (bif Nat.beq d t then v else lkp .dead s.env t) = _
  by_cases h : t = d
  · subst h; simp
  · have : Nat.beq d t = false := by
      rw [← Bool.not_eq_true]; intro h'; exact h (Nat.eq_of_beq_eq_true h').symm
    simp [this, h]
theorem AS.get_deown (s : AS) (id t : Nat) : (s.deown id).get t = (s.get t).deown id := by
  unfold AS.get AS.deown
  exact lkp_map (AV.deown id) .dead s.env t
theorem AS.get_unptr (s : AS) (id t : Nat) : (s.unptr id).get t = (s.get t).unptr id := by
  unfold AS.get AS.unptr
  exact lkp_map (AV.unptr id) .dead s.env t

/-! ### when a world makes a state true -/
abbrev Tok := Nat → Option (Nat × Nat)
abbrev Bx := Nat → Option Nat
/-- What may still be written: what the caller has shut, what lies behind the frame's own rows, the frame's own variables. -/
def Wr (F : Nat → Nat → Prop) (tok : Tok) (bx : Bx) (b o : Nat) : Prop := F b o ∨ (∃ id u, tok id = some (b, u) ∧ u ≤ o) ∨ ∃ id, bx id = some b
def szOf (P : Program) (e : TypeId) : Nat := ((P.info? e).map (·.size)).getD 0
def Tip (P : Program) (w : World) (tok : Tok) (id : Nat) (e : TypeId) (items : List (List AV)) (v : Value) : Prop :=
  (∀ it ∈ items, it.length = szOf P e) ∧ ((v = .slice none 0 0 ∧ items = [] ∧ tok id = none) ∨
    ∃ g cap cur, v = .slice (some ⟨g, 0, none⟩) items.length cap ∧ tok id = some (g, items.length * szOf P e) ∧ w.heap[g]? = some (.cells cur e (0, 0)) ∧ cur.size = cap * szOf P e ∧ items.length ≤ cap ∧ cap ≤ maxLen)
def SlotRep (P : Program) (w : World) (F : Nat → Nat → Prop) (tok : Tok) (bx : Bx) : AV → Value → Prop
  | .own id e items, v => Rep w (Wr F tok bx) (.sl items) v ∧ Tip P w tok id e items v
  | .ptr id off, v => ∃ b, bx id = some b ∧ v = .pointer (some ⟨b, off, none⟩)
  | .dead, _ => True
  | a, v => Rep w (Wr F tok bx) a v
/-- A frame, begun at the world w0, in the world w. -/
structure Good (P : Program) (N : Nat) (F : Nat → Nat → Prop) (w0 : World) (s : AS) (a : Act) (w : World) (tok : Tok) (bx : Bx) : Prop where
  below : Below w0.heap.size w0 w
  hF : ∀ b o, F b o → b < w0.heap.size
  size : a.tmps.size = N
  defers : a.defers = []
  tokB : ∀ id g u, tok id = some (g, u) → w0.heap.size ≤ g ∧ g < w.heap.size
  bxB : ∀ id g, bx id = some g → w0.heap.size ≤ g ∧ g < w.heap.size
  inj : ∀ i j g u u', tok i = some (g, u) → tok j = some (g, u') → i = j
  bxI : ∀ i j g, bx i = some g → bx j = some g → i = j
  apart : ∀ i j g u, tok i = some (g, u) → bx j ≠ some g
  slots : ∀ t, SlotRep P w F tok bx (s.get t) (a.tmps.getD t undef)
  boxes : ∀ id cs, s.getb id = some cs → ∃ g cur e, bx id = some g ∧ w.heap[g]? = some (.cells cur e (0, 0)) ∧ cur.size = cs.length ∧ (∀ u ∈ cur.toList, u.oneCell' = true) ∧ ∀ (j : Nat) (c : AV) (u : Value), cs[j]? = some c → cur.toList[j]? = some u → Rep w (Wr F tok bx) c u
def R (P : Program) (N : Nat) (F : Nat → Nat → Prop) (w0 : World) (s : AS) (a : Act) (w : World) : Prop := ∃ tok bx, Good P N F w0 s a w tok bx

section
variable {P : Program} {N : Nat} {F : Nat → Nat → Prop} {w0 w w' : World} {s : AS} {a : Act} {tok : Tok} {bx : Bx}
/-- A slot that is pure. -/
def AV.pure : AV → Bool
  | .own .. | .ptr .. | .dead => false
  | _ => true
theorem SlotRep.of_rep {x : AV} {v : Value} (h : Rep w (Wr F tok bx) x v) : SlotRep P w F tok bx x v := by
  cases x with
  | own id e items => cases h
  | ptr id off => cases h
  | dead => trivial
  | _ => exact h
theorem SlotRep.rep {x : AV} {v : Value} (hp : x.pure = true) (h : SlotRep P w F tok bx x v) : Rep w (Wr F tok bx) x v := by
  cases x with
  | own id e items => cases hp
  | ptr id off => cases hp
  | dead => cases hp
  | _ => exact h
theorem rep_nil {F : Nat → Nat → Prop} : Rep w F (.sl []) (.slice none 0 0) := Rep.sl [] 0 none 0 0 0 (fun _ => undef) (by simp) (by simp) (by simp) (by simp) (by simp) (by simp) (by simp) (by simp)
theorem SlotRep.view {x : AV} {v : Value} (hp : x.view.pure = true) (h : SlotRep P w F tok bx x v) : Rep w (Wr F tok bx) x.view v := by
  cases x with
  | lit u =>
    have h' : Rep w (Wr F tok bx) (.lit u) v := h
    cases h'
    show Rep w (Wr F tok bx) (bif isNilV v then .sl [] else .lit v) v
    cases hn : isNilV v with
    | true =>
      unfold isNilV at hn
      split at hn
      · exact rep_nil
      · cases hn
    | false => exact .lit v
  | own id e items => exact h.1
  | ptr id off => cases hp
  | dead => cases hp
  | _ => exact h
theorem getD_put {a : Act} {d t : Nat} {v : Value} (hd : d < a.tmps.size) : (a.put (some d) v).tmps.getD t undef = if t = d then v else a.tmps.getD t undef := by
  show (a.tmps.setIfInBounds d v).getD t undef = _
  by_cases h : t = d
  · subst h; simp [hd]
  · have h' : d ≠ t := fun e => h e.symm
    simp only [h, if_false]
    simp only [Array.getD_eq_getD_getElem?]
    rw [Array.getElem?_setIfInBounds_ne h']
theorem size_put {a : Act} {d : Option Nat} {v : Value} : (a.put d v).tmps.size = a.tmps.size := by
  cases d with
  | none => rfl
  | some d => show (a.tmps.setIfInBounds d v).size = _; simp
theorem defers_put {a : Act} {d : Option Nat} {v : Value} : (a.put d v).defers = a.defers := by
  cases d <;> rfl
theorem Good.put {d : Option Nat} {x : AV} {v : Value} (h : Good P N F w0 s a w tok bx) (hd : ∀ k, d = some k → k < N) (hx : SlotRep P w F tok bx x v) : Good P N F w0 (s.put d x) (a.put d v) w tok bx := by
  cases d with
  | none => exact h
  | some d =>
    have hd' : d < a.tmps.size := by rw [h.size]; exact hd d rfl
    refine { h with size := size_put.trans h.size, defers := defers_put.trans h.defers, slots := fun t => ?_, boxes := h.boxes }
    rw [getD_put hd']
    show SlotRep P w F tok bx ((s.set d x).get t) _
    rw [AS.get_set]
    split
    · exact hx
    · exact h.slots t
theorem Good.dead {d : Option Nat} {v : Value} (h : Good P N F w0 s a w tok bx) (hd : ∀ k, d = some k → k < N) : Good P N F w0 (s.put d .dead) (a.put d v) w tok bx := h.put hd trivial
theorem SlotRep.keep {x : AV} {v : Value} {tok' : Tok} {bx' : Bx} (h : SlotRep P w F tok bx x v)
    (hk : ∀ b o u, ¬ Wr F tok bx b o → w.cell? ⟨b, o, none⟩ = some u → w'.cell? ⟨b, o, none⟩ = some u ∧ ¬ Wr F tok' bx' b o)
    (ho : ∀ id e items, x = .own id e items → tok' id = tok id ∧ ∀ g u, tok id = some (g, u) → w'.heap[g]? = w.heap[g]?) (hb : ∀ id o, x = .ptr id o → bx' id = bx id) : SlotRep P w' F tok' bx' x v := by
  cases x with
  | own id e items =>
    obtain ⟨h1, h2, h3⟩ := h
    obtain ⟨e1, e2⟩ := ho id e items rfl
    refine ⟨h1.keep hk, h2, ?_⟩
    rcases h3 with ⟨rfl, h4, h5⟩ | ⟨g, cap, cur, rfl, h4, h5, h6⟩
    · exact .inl ⟨rfl, h4, e1.trans h5⟩
    · exact .inr ⟨g, cap, cur, rfl, e1.trans h4, (e2 _ _ h4).trans h5, h6⟩
  | ptr id off =>
    obtain ⟨b, h1, h2⟩ := h
    exact ⟨b, (hb id off rfl).trans h1, h2⟩
  | dead => trivial
  | _ => exact Rep.keep (show Rep _ _ _ _ from h) hk
/-- Memory that was there stays, and there may be more. -/
theorem Good.world (h : Good P N F w0 s a w tok bx) (hb : Below w.heap.size w w') : Good P N F w0 s a w' tok bx := by
  have hk : ∀ b o u, ¬ Wr F tok bx b o → w.cell? ⟨b, o, none⟩ = some u → w'.cell? ⟨b, o, none⟩ = some u ∧ ¬ Wr F tok bx b o := fun b o u hn hc => ⟨(hb.cell (p := ⟨_, _, none⟩) (cell_lt hc)).trans hc, hn⟩
  refine { h with below := h.below.trans (hb.mono h.below.size), tokB := fun id g u ht => ?_, bxB := fun id g ht => ?_, slots := fun t => ?_, boxes := fun id cs hcs => ?_ }
  · have := h.tokB id g u ht; have := hb.size; omega
  · have := h.bxB id g ht; have := hb.size; omega
  · exact (h.slots t).keep hk (fun id e items _ => ⟨rfl, fun g u ht => hb.block g (h.tokB id g u ht).2⟩) fun _ _ _ => rfl
  · obtain ⟨g, cur, e, h1, h2, h3, h4, h5⟩ := h.boxes id cs hcs
    exact ⟨g, cur, e, h1, (hb.block g (h.bxB id g h1).2).trans h2, h3, h4, fun j c u hc hu => (h5 j c u hc hu).keep hk⟩
theorem SlotRep.deown {x : AV} {v : Value} {id : Nat} (h : SlotRep P w F tok bx x v) : SlotRep P w F tok bx (x.deown id) v := by
  cases x with
  | own i e items =>
    show SlotRep P w F tok bx (bif Nat.beq i id then .sl items else .own i e items) v
    cases Nat.beq i id with
    | true => exact h.1
    | false => exact h
  | _ => exact h
theorem Good.deown (h : Good P N F w0 s a w tok bx) (id : Nat) : Good P N F w0 (s.deown id) a w tok bx := by
  refine { h with slots := fun t => ?_, boxes := h.boxes }
  rw [AS.get_deown]
  exact (h.slots t).deown
end
end Go.Proofs.Ytpemfmlonamikaa.Av
