/- From what the rows of chapter 17 read to what the walks are told: edits, slices of edits and tables. -/
import Derived.Test.YtheanmfdfoefoaaEdD
import Derived.Test.YtheanmfdfoefoaaHvTab
import Derived.Test.YtheanmfdfoefoaaHvRow
import Derived.Deep.Slices
import Derived.Deep.Strs
import Derived.Lib.SmallJoins
import Derived.ProofKit
namespace Go.Proofs.Ytheanmfdfoefoaa
open Go Go.RowKit Go.ChangeShapes Go.WideShapes

theorem list5 {α : Type} {l : List α} (h : l.length = 5) : ∃ a b c d e, l = [a, b, c, d, e] := by
  match l, h with
  | [a, b, c, d, e], _ => exact ⟨a, b, c, d, e, rfl⟩
theorem list2 {α : Type} {l : List α} (h : l.length = 2) : ∃ a b, l = [a, b] := by
  match l, h with
  | [a, b], _ => exact ⟨a, b, rfl⟩
theorem list3 {α : Type} {l : List α} (h : l.length = 3) : ∃ a b c, l = [a, b, c] := by
  match l, h with
  | [a, b, c], _ => exact ⟨a, b, c, rfl⟩
theorem list4 {α : Type} {l : List α} (h : l.length = 4) : ∃ a b c d, l = [a, b, c, d] := by
  match l, h with
  | [a, b, c, d], _ => exact ⟨a, b, c, d, rfl⟩
section
variable {H : Type} {enc : TypeId × Value → H} {P : Program} {w : World} {base : Nat} {spare : Nat → Bool} {held : Bool}
theorem open_elems {α : Type} [Inhabited α] {sz : Nat} {f : α → List Value} {good : α → Prop} (hf : ∀ a, (f a).length = sz) {t e : TypeId} {fuel : Nat} {v : Value} {x : DataW H × List MemPlace}
    (ht : P.underlying t = some (.slice e)) (hC : P.cellsOf e = sz) (hread : ∀ (n : Nat) (cs : List Value) (y : DataW H × List MemPlace), DataW.trod enc P w base spare held n e cs = some y → ∃ a, cs = f a ∧ good a)
    (h : DataW.trod enc P w base spare held fuel t [v] = some x) : ∃ l : List α, RdT w sz f v l ∧ ∀ a ∈ l, good a := by
  rcases Go.Deep.open_slice ht h with ⟨h0, _⟩ | ⟨a, len, cap, m, n, D, Pl, hcs, _, hl, hm, hmm, _, hi⟩
  · simp only [List.cons.injEq, and_true] at h0
    subst h0
    exact ⟨[], ⟨none, 0, rfl, Nat.le_refl _, Nat.zero_le _, by simp, fun h => absurd h (by simp)⟩, fun _ h => by simp at h⟩
  · simp only [List.cons.injEq, and_true] at hcs
    subst hcs
    have hlm : len ≤ m := by rw [hmm]; split <;> omega
    obtain ⟨g, hg⟩ := Go.Deep.choose_lt (n := len) (p := fun i a' => good a' ∧ ∀ j u, (f a')[j]? = some u → w.cell? (a.add (i * sz + j)) = some u) (fun i hil => by
      obtain ⟨cs', hc, ht'⟩ := hi i (by omega)
      obtain ⟨b, rfl, hb⟩ := hread n cs' _ ht'
      rw [hC] at hc
      obtain ⟨_, _, hat⟩ := World.cells?_some hc
      refine ⟨b, hb, fun j u hu => ?_⟩
      have hj : j < sz := by
        have := (List.getElem?_eq_some_iff.1 hu).1
        rwa [hf] at this
      have := hat j hj
      rw [add_add'] at this
      rw [this, hu])
    refine ⟨(List.range len).map g, ⟨some a, cap, by simp, by simpa using hl, hm, ?_, fun _ => ⟨a, rfl, fun j u hu => ?_⟩⟩, ?_⟩
    · rw [flatMap_len hf]
    · have hjl : j < ((List.range len).map g).length * sz := by
        have := (List.getElem?_eq_some_iff.1 hu).1
        rwa [flatMap_len hf] at this
      rcases Nat.eq_zero_or_pos sz with h0 | h0
      · subst h0; simp at hjl
      · have hq : j / sz < ((List.range len).map g).length := (Nat.div_lt_iff_lt_mul h0).2 hjl
        have hr : j % sz < sz := Nat.mod_lt _ h0
        have e := flatMap_get hf ((List.range len).map g) (j / sz) (j % sz) hq hr
        have ej : j / sz * sz + j % sz = j := by rw [Nat.mul_comm]; exact Nat.div_add_mod j sz
        rw [ej, hu] at e
        have := (hg (j / sz) (by simpa using hq)).2 (j % sz) u (by rw [e]; simp)
        rwa [ej] at this
    · intro x hx
      obtain ⟨i, hi', rfl⟩ := List.mem_map.1 hx
      exact (hg i (List.mem_range.1 hi')).1
end


section
variable {H : Type} {enc : TypeId × Value → H} {P : Program} {w : World} {base : Nat} {spare : Nat → Bool} {held : Bool}
theorem trod_struct2' {t : TypeId} {f0 f1 : Field} {fuel : Nat} {cs : List Value} {x : DataW H × List MemPlace} (ht : P.underlying t = some (.struct #[f0, f1])) (h : DataW.trod enc P w base spare held fuel t cs = some x) :
    ∃ y0 y1 n, cs.length = P.cellsOf t ∧ DataW.trod enc P w base spare held n f0.type ((cs.drop f0.offset).take (P.cellsOf f0.type)) = some y0 ∧
      DataW.trod enc P w base spare held n f1.type ((cs.drop f1.offset).take (P.cellsOf f1.type)) = some y1 := by
  obtain ⟨xs, n, _, rfl, hl, hlen, hf⟩ := DataW.trod_struct ht h
  match xs, hlen with
  | [y0, y1], _ => exact ⟨y0, y1, n, hl, by simpa using hf 0 f0 rfl, by simpa using hf 1 f1 rfl⟩
theorem trod_struct4' {t : TypeId} {f0 f1 f2 f3 : Field} {fuel : Nat} {cs : List Value} {x : DataW H × List MemPlace} (ht : P.underlying t = some (.struct #[f0, f1, f2, f3])) (h : DataW.trod enc P w base spare held fuel t cs = some x) :
    ∃ y0 y1 y2 y3 n, cs.length = P.cellsOf t ∧ DataW.trod enc P w base spare held n f0.type ((cs.drop f0.offset).take (P.cellsOf f0.type)) = some y0 ∧
      DataW.trod enc P w base spare held n f1.type ((cs.drop f1.offset).take (P.cellsOf f1.type)) = some y1 ∧ DataW.trod enc P w base spare held n f2.type ((cs.drop f2.offset).take (P.cellsOf f2.type)) = some y2 ∧
      DataW.trod enc P w base spare held n f3.type ((cs.drop f3.offset).take (P.cellsOf f3.type)) = some y3 := by
  obtain ⟨xs, n, _, rfl, hl, hlen, hf⟩ := DataW.trod_struct ht h
  match xs, hlen with
  | [y0, y1, y2, y3], _ => exact ⟨y0, y1, y2, y3, n, hl, by simpa using hf 0 f0 rfl, by simpa using hf 1 f1 rfl, by simpa using hf 2 f2 rfl, by simpa using hf 3 f3 rfl⟩
end
section
variable {H : Type} {enc : TypeId × Value → H} {P : Program} {w : World} {base : Nat} {spare : Nat → Bool} {held : Bool}
theorem trod_struct5' {t : TypeId} {f0 f1 f2 f3 f4 : Field} {fuel : Nat} {cs : List Value} {x : DataW H × List MemPlace} (ht : P.underlying t = some (.struct #[f0, f1, f2, f3, f4])) (h : DataW.trod enc P w base spare held fuel t cs = some x) :
    ∃ y0 y1 y2 y3 y4 n, cs.length = P.cellsOf t ∧ DataW.trod enc P w base spare held n f0.type ((cs.drop f0.offset).take (P.cellsOf f0.type)) = some y0 ∧
      DataW.trod enc P w base spare held n f1.type ((cs.drop f1.offset).take (P.cellsOf f1.type)) = some y1 ∧ DataW.trod enc P w base spare held n f2.type ((cs.drop f2.offset).take (P.cellsOf f2.type)) = some y2 ∧
      DataW.trod enc P w base spare held n f3.type ((cs.drop f3.offset).take (P.cellsOf f3.type)) = some y3 ∧ DataW.trod enc P w base spare held n f4.type ((cs.drop f4.offset).take (P.cellsOf f4.type)) = some y4 := by
  obtain ⟨xs, n, _, rfl, hl, hlen, hf⟩ := DataW.trod_struct ht h
  match xs, hlen with
  | [y0, y1, y2, y3, y4], _ => exact ⟨y0, y1, y2, y3, y4, n, hl, by simpa using hf 0 f0 rfl, by simpa using hf 1 f1 rfl, by simpa using hf 2 f2 rfl, by simpa using hf 3 f3 rfl, by simpa using hf 4 f4 rfl⟩
end
theorem cells_int : Try.prog.cellsOf 3 = 1 := by kernel_rfl
theorem cells_str : Try.prog.cellsOf 9 = 1 := by kernel_rfl
theorem cells_rmeta : Try.prog.cellsOf 56 = 4 := by kernel_rfl
theorem cells_radd : Try.prog.cellsOf 84 = 5 := by kernel_rfl
theorem cells_rpl : Try.prog.cellsOf 86 = 2 := by kernel_rfl
theorem cells_red : Try.prog.cellsOf 62 = 5 := by kernel_rfl
theorem cells_radds : Try.prog.cellsOf 22 = 1 := by kernel_rfl
theorem cells_rpls : Try.prog.cellsOf 60 = 1 := by kernel_rfl
instance inhMetaE : Inhabited MetaD := ⟨⟨0, 0, ⟨#[]⟩, ⟨#[]⟩⟩⟩
instance : Inhabited AddD := ⟨⟨0, default⟩⟩
instance : Inhabited PlD := ⟨⟨0, 0⟩⟩
instance : Inhabited EdD := ⟨⟨0, 0, 0, [], []⟩⟩
section
variable {H : Type} {enc : TypeId × Value → H} {w : World} {base : Nat} {spare : Nat → Bool} {held : Bool}
theorem read_rmeta (n : Nat) (cs : List Value) (y : DataW H × List MemPlace)
    (h : DataW.trod enc Try.prog w base spare held n 56 cs = some y) : ∃ m, cs = metaC m ∧ True := by
  obtain ⟨y0, y1, y2, y3, m, hl, h0, h1, h2, h3⟩ := trod_struct4' Try.underlying56 h
  rw [cells_rmeta] at hl
  obtain ⟨c0, c1, c2, c3, rfl⟩ := list4 hl
  simp [cells_int, cells_str] at h0 h1 h2 h3
  obtain ⟨k, e0, _, _⟩ := DataW.trod_int Try.underlying3 h0
  obtain ⟨k', e1, _, _⟩ := DataW.trod_int Try.underlying3 h1
  obtain ⟨s, e2, _, _⟩ := DataW.trod_string Try.underlying9 h2
  obtain ⟨s', e3, _, _⟩ := DataW.trod_string Try.underlying9 h3
  simp at e0 e1 e2 e3
  subst e0 e1 e2 e3
  exact ⟨⟨k, k', s, s'⟩, rfl, trivial⟩
theorem read_radd (n : Nat) (cs : List Value) (y : DataW H × List MemPlace)
    (h : DataW.trod enc Try.prog w base spare held n 84 cs = some y) : ∃ m, cs = addC m ∧ True := by
  obtain ⟨y0, y1, m, hl, h0, h1⟩ := trod_struct2' Try.underlying84 h
  rw [cells_radd] at hl
  obtain ⟨c0, c1, c2, c3, c4, rfl⟩ := list5 hl
  simp [cells_int, cells_rmeta] at h0 h1
  obtain ⟨k, e0, _, _⟩ := DataW.trod_int Try.underlying3 h0
  obtain ⟨mm, e1, _⟩ := read_rmeta _ _ _ h1
  simp at e0
  subst e0
  simp only [metaC, List.cons.injEq, and_true] at e1
  obtain ⟨rfl, rfl, rfl, rfl⟩ := e1
  exact ⟨⟨k, mm⟩, rfl, trivial⟩
theorem read_rpl (n : Nat) (cs : List Value) (y : DataW H × List MemPlace)
    (h : DataW.trod enc Try.prog w base spare held n 86 cs = some y) : ∃ m, cs = plC m ∧ True := by
  obtain ⟨y0, y1, m, hl, h0, h1⟩ := trod_struct2' Try.underlying86 h
  rw [cells_rpl] at hl
  obtain ⟨c0, c1, rfl⟩ := list2 hl
  simp [cells_int] at h0 h1
  obtain ⟨k, e0, _, _⟩ := DataW.trod_int Try.underlying3 h0
  obtain ⟨k', e1, _, _⟩ := DataW.trod_int Try.underlying3 h1
  simp at e0 e1
  subst e0 e1
  exact ⟨⟨k, k'⟩, rfl, trivial⟩
theorem open_adds {fuel : Nat} {v : Value} {x : DataW H × List MemPlace}
    (h : DataW.trod enc Try.prog w base spare held fuel 22 [v] = some x) : ∃ l, RdT w 5 addC v l := by
  obtain ⟨l, hl, _⟩ := open_elems (good := fun _ => True) addC_len Try.underlying22 cells_radd read_radd h
  exact ⟨l, hl⟩
theorem open_pls {fuel : Nat} {v : Value} {x : DataW H × List MemPlace}
    (h : DataW.trod enc Try.prog w base spare held fuel 60 [v] = some x) : ∃ l, RdT w 2 plC v l := by
  obtain ⟨l, hl, _⟩ := open_elems (good := fun _ => True) plC_len Try.underlying60 cells_rpl read_rpl h
  exact ⟨l, hl⟩
end
/-- An edit with the two slices' values. -/
structure EdV where
  e : EdD
  g : Value
  n : Value
instance : Inhabited EdV := ⟨⟨default, undef, undef⟩⟩
def edC (x : EdV) : List Value := [.int .i64 x.e.log, .int .i64 x.e.next, .int .i64 x.e.seq, x.g, x.n]
theorem edC_len (x : EdV) : (edC x).length = 5 := rfl
def EdGood (w : World) (x : EdV) : Prop := RdT w 2 plC x.g x.e.gone ∧ RdT w 5 addC x.n x.e.new
section
variable {H : Type} {enc : TypeId × Value → H} {w : World} {base : Nat} {spare : Nat → Bool} {held : Bool}
theorem read_red (n : Nat) (cs : List Value) (y : DataW H × List MemPlace)
    (h : DataW.trod enc Try.prog w base spare held n 62 cs = some y) : ∃ m, cs = edC m ∧ EdGood w m := by
  obtain ⟨y0, y1, y2, y3, y4, m, hl, h0, h1, h2, h3, h4⟩ := trod_struct5' Try.underlying62 h
  rw [cells_red] at hl
  obtain ⟨c0, c1, c2, c3, c4, rfl⟩ := list5 hl
  simp [cells_int, cells_radds, cells_rpls] at h0 h1 h2 h3 h4
  obtain ⟨k, e0, _, _⟩ := DataW.trod_int Try.underlying3 h0
  obtain ⟨k', e1, _, _⟩ := DataW.trod_int Try.underlying3 h1
  obtain ⟨k'', e2, _, _⟩ := DataW.trod_int Try.underlying3 h2
  obtain ⟨lg, hg⟩ := open_pls h3
  obtain ⟨ln, hn⟩ := open_adds h4
  simp at e0 e1 e2
  subst e0 e1 e2
  exact ⟨⟨⟨k, k', k'', lg, ln⟩, c3, c4⟩, rfl, hg, hn⟩
theorem open_edits {fuel : Nat} {v : Value} {x : DataW H × List MemPlace}
    (h : DataW.trod enc Try.prog w base spare held fuel 88 [v] = some x) : ∃ l, RdT w 5 edC v l ∧ ∀ a ∈ l, EdGood w a :=
  open_elems (good := EdGood w) edC_len Try.underlying88 cells_red read_red h
end
/-! ### what the walk is told -/
section
variable {w : World} {gb : Hv.Gb} {W : Nat → Nat → Prop} {v : Value}
theorem rep_adds {l : List AddD} (hW : ∀ b o, ¬ W b o) (h : RdT w 5 addC v l) : Hv.Rep w W gb (.sl (l.map addH)) v :=
  Hv.rep_of_rd hW (fun _ => rfl) addC_len (fun a u hu => by simp only [addC, List.mem_cons, List.not_mem_nil, or_false] at hu; rcases hu with rfl | rfl | rfl | rfl | rfl <;> rfl) (by decide) h
theorem rep_pls {l : List PlD} (hW : ∀ b o, ¬ W b o) (h : RdT w 2 plC v l) : Hv.Rep w W gb (.sl (l.map plH)) v :=
  Hv.rep_of_rd hW (fun _ => rfl) plC_len (fun a u hu => by simp only [plC, List.mem_cons, List.not_mem_nil, or_false] at hu; rcases hu with rfl | rfl <;> rfl) (by decide) h
def edL (e : EdD) : List Hv.AV := [.lit (.int .i64 e.log), .lit (.int .i64 e.next), .lit (.int .i64 e.seq), .sl (e.gone.map plH), .sl (e.new.map addH)]
theorem rep_edc {x : EdV} (hW : ∀ b o, ¬ W b o) (h : EdGood w x) : (∀ u ∈ edC x, u.oneCell' = true) ∧ ∀ (k : Nat) (a : Hv.AV) (u : Value), (edL x.e)[k]? = some a → (edC x)[k]? = some u → Hv.Rep w W gb a u := by
  refine ⟨fun u hu => ?_, ?_⟩
  · simp only [edC, List.mem_cons, List.not_mem_nil, or_false] at hu
    rcases hu with rfl | rfl | rfl | rfl | rfl
    · rfl
    · rfl
    · rfl
    · exact Hv.RdT.one h.1
    · exact Hv.RdT.one h.2
  · exact Hv.reps_cons (.lit _) (Hv.reps_cons (.lit _) (Hv.reps_cons (.lit _) (Hv.reps_cons (rep_pls hW h.1) (Hv.reps_cons (rep_adds hW h.2) Hv.reps_nil))))
theorem rep_edits {l : List EdV} (hW : ∀ b o, ¬ W b o) (h : RdT w 5 edC v l) (hg : ∀ a ∈ l, EdGood w a) : Hv.Rep w W gb (.sl ((l.map EdV.e).map edL)) v := by
  rw [List.map_map]
  exact Hv.rep_of_rdN hW (fun _ => rfl) edC_len (fun a ha => (rep_edc (gb := gb) hW (hg a ha)).1) (fun a ha => (rep_edc hW (hg a ha)).2) (by decide) h
end
end Go.Proofs.Ytheanmfdfoefoaa
