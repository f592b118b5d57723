/- What the texts of the chapters on versions begin with: cells in memory, the library's functions. -/
import Derived.Test.YticplbnnmajcpaaProg
import Derived.Test.YticplbnnmajcpaaKeepDoc
import Derived.Shelf.Small.Strs
import Derived.Shelf.Lay
import Derived.Ground.NamesProg
import Derived.Laws.StructEq
namespace Go.Proofs.Yticplbnnmajcpaa
open Go Go.RowKit
shelf_lay Lays.n106 Nm 106 at Try as Try.laysCompare
theorem compare_slt : ∀ (a b : List UInt8), Lib.compareBytes a b = if a = b then 0 else if a < b then -1 else 1 := by
  intro a
  induction a with
  | nil => intro b; cases b with
    | nil => simp [Lib.compareBytes]
    | cons y b => simp [Lib.compareBytes]
  | cons x a ih =>
    intro b
    cases b with
    | nil => simp [Lib.compareBytes]
    | cons y b =>
      unfold Lib.compareBytes
      rw [ih b]
      by_cases h1 : x < y
      · have hne : x ≠ y := fun e => by subst e; exact absurd h1 (by simp)
        simp [h1, hne, List.cons_lt_cons_iff]
      · by_cases h2 : y < x
        · have hne : x ≠ y := fun e => by subst e; exact absurd h2 (by simp)
          simp [h1, h2, hne, List.cons_lt_cons_iff]
        · have he : x = y := by
            apply UInt8.le_antisymm <;> (rw [← UInt8.not_lt]; assumption)
          subst he
          simp
def cmpS (a b : ByteArray) : Int := if a.toList = b.toList then 0 else if slt a b then -1 else 1
theorem Compare_calls (a b : ByteArray) (w : World) : Calls Try.prog 80 #[.string a, .string b] w fun e w' => e = .returned (.int .i64 (cmpS a b)) ∧ w = w' :=
  (Any.strings_Compare Try.laysCompare a b w).mono fun e w' ⟨he, hw⟩ => by
    refine ⟨?_, hw.symm⟩
    rw [he, compare_slt]
    unfold cmpS
    rw [← Lib.toList_data, ← Lib.toList_data]
    congr 2
    by_cases h : a.toList = b.toList
    · simp [h]
    · rw [if_neg h, if_neg h]
      by_cases h2 : a.toList < b.toList
      · rw [if_pos h2, if_pos ((slt_iff _ _).2 h2)]
      · rw [if_neg h2, if_neg (fun h' => h2 ((slt_iff _ _).1 h'))]

/-! ### cells -/
theorem RdT.atB {α : Type} {w W : World} {sz : Nat} {f : α → List Value} {A : Option Addr} {n c : Nat} {l : List α} (h : RdT w sz f (.slice A n c) l) (hb : Below w.heap.size w W) (hf : ∀ a, (f a).length = sz) (hsz : 0 < sz) {k : Nat} (hk : k < l.length) :
    ∃ b off, A = some ⟨b, off, none⟩ ∧ b < w.heap.size ∧ ∀ j u, (f l[k])[j]? = some u → W.cell? ⟨b, off + k * sz + j, none⟩ = some u := by
  obtain ⟨b, off, c', hA, hblt, _, _, hcell⟩ := RdT.at h hf hsz hk
  injection hA with hA _ hcc
  exact ⟨b, off, hA, hblt, fun j u hu => (hb.cell (p := ⟨b, _, none⟩) hblt).trans (hcell j u hu)⟩
theorem RdT.len {α : Type} {w : World} {sz : Nat} {f : α → List Value} {v : Value} {l : List α} (h : RdT w sz f v l) : ∃ A c, v = .slice A l.length c ∧ l.length ≤ c ∧ c ≤ 9223372036854775807 := by
  obtain ⟨A, c, rfl, h1, h2, _, _⟩ := h
  exact ⟨A, c, rfl, h1, h2⟩
theorem RdT.below {α : Type} {w w' : World} {sz : Nat} {f : α → List Value} {v : Value} {l : List α} (h : RdT w sz f v l) (hb : Below w.heap.size w w') : RdT w' sz f v l := Rd.below h hb
theorem lt_of_at {w : World} {b : Nat} {o : Obj} (h : w.heap[b]? = some o) : b < w.heap.size := by
  rcases Nat.lt_or_ge b w.heap.size with hl | hl
  · exact hl
  · rw [Array.getElem?_eq_none hl] at h; cases h
theorem below_at {B b : Nat} {w W : World} (h : Below B w W) (hb : b < B) (o : Nat) : W.cell? ⟨b, o, none⟩ = w.cell? ⟨b, o, none⟩ := h.cell (p := ⟨b, o, none⟩) hb
theorem atCell {w W : World} {A : Option Addr} {n c : Nat} {l : List CellD} (h : RdT w 4 cellC (.slice A n c) l) (hb : Below w.heap.size w W) {k : Nat} (hk : k < l.length) :
    ∃ b off m, A = some ⟨b, off, none⟩ ∧ b < w.heap.size ∧ Hid (l[k] = m) ∧ W.cell? ⟨b, off + k * 4, none⟩ = some (.string m.key) ∧ W.cell? ⟨b, off + k * 4 + 1, none⟩ = some (.int .i64 m.seq) ∧
      W.cell? ⟨b, off + k * 4 + 2, none⟩ = some (.int .i64 m.kind) ∧ W.cell? ⟨b, off + k * 4 + 3, none⟩ = some (.string m.val) := by
  obtain ⟨b, off, e, hlt, hc⟩ := h.atB hb cellC_len (by omega) hk
  exact ⟨b, off, _, e, hlt, rfl, hc 0 _ rfl, hc 1 _ rfl, hc 2 _ rfl, hc 3 _ rfl⟩
theorem cells_one (l : List CellD) : ∀ u ∈ l.flatMap cellC, u.oneCell' = true := by
  intro u hu
  obtain ⟨x, _, hx⟩ := List.mem_flatMap.1 hu
  exact cellC_one x u hx
theorem et_cell : ElemT Try.prog 22 35 (.agg #[.string ⟨#[]⟩, .int .i64 0, .int .i64 0, .string ⟨#[]⟩]) 4 48 := .mk' Try.underlying22 (by kernel_rfl) rfl (by decide) (by decide)
theorem take_next {α : Type} {l : List α} {k : Nat} (hk : k < l.length) : l.take (k + 1) = l.take k ++ [l[k]] := List.take_succ_eq_append_getElem hk
theorem flat_next {α : Type} {f : α → List Value} {l : List α} {k : Nat} (hk : k < l.length) : (l.take (k + 1)).flatMap f = (l.take k).flatMap f ++ f l[k] := by
  rw [take_next hk, List.flatMap_append]; simp
theorem cell_neq (x y : CellD) (w : World) : (binOp .neq 35 (.agg #[.string x.key, .int .i64 x.seq, .int .i64 x.kind, .string x.val]) (.agg #[.string y.key, .int .i64 y.seq, .int .i64 y.kind, .string y.val])).run Try.prog w = .ok (.bool (!cellEq x y)) w := by
  have hu : Try.prog.underlying 35 = some (.struct (Try.prog.fieldsOf 35)) := by kernel_rfl
  have hh : Try.prog.stoodInHeld 35 = false := by kernel_rfl
  rw [run_neq_struct, run_equalIn_agg _ _ _ _ _ hu hh]
  have h24 := Try.underlying35
  have h25 := Try.underlying33
  simp [go_sem, Program.fieldsOf, h24, h25, Try.underlying3, Try.underlying9]
  unfold cellEq verEq keqB
  repeat' split
  all_goals simp [*]
theorem cell_guard (x y : Operand) (xs ys : Array Value) (w : World) : (eqGuard .neq 35 x y (.agg xs) (.agg ys)).run Try.prog w = .ok () w := run_eqGuard_agg _ _ _ _ _ _ _ (by kernel_rfl)
end Go.Proofs.Yticplbnnmajcpaa
