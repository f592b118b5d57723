/- Slices that are read outside some blocks (from lo on, below hi): they read on whatever becomes of those. Plain. -/
import Derived.Test.YtheanmfdfoefoaaMeta
namespace Go.Proofs.Ytheanmfdfoefoaa
open Go Go.RowKit
theorem RdT.below {α : Type} {w w' : World} {sz : Nat} {f : α → List Value} {v : Value} {l : List α} (h : RdT w sz f v l) (hb : Below w.heap.size w w') : RdT w' sz f v l := Rd.below h hb
theorem lt_of_at {w : World} {b : Nat} {o : Obj} (h : w.heap[b]? = some o) : b < w.heap.size := by
  rcases Nat.lt_or_ge b w.heap.size with hl | hl
  · exact hl
  · rw [Array.getElem?_eq_none hl] at h; cases h
theorem below_at {B b : Nat} {w W : World} (h : Below B w W) (hb : b < B) (o : Nat) : W.cell? ⟨b, o, none⟩ = w.cell? ⟨b, o, none⟩ := h.cell (p := ⟨b, o, none⟩) hb
def RdX {α : Type} (lo hi : Nat) (w : World) (sz : Nat) (f : α → List Value) (v : Value) (l : List α) : Prop :=
  ∀ W : World, (∀ p u, (p.block < lo ∨ hi ≤ p.block) → w.cell? p = some u → W.cell? p = some u) → RdT W sz f v l
section
variable {α : Type} {lo hi : Nat} {w w' : World} {sz : Nat} {f : α → List Value} {v : Value} {l : List α}
theorem RdX.rd (h : RdX lo hi w sz f v l) : RdT w sz f v l := h w fun _ _ _ hp => hp
theorem RdX.of_old (h : RdT w sz f v l) (hw : w.heap.size ≤ lo) : RdX lo hi w sz f v l := fun _ hW =>
  Rd.keep h fun p u hp => hW p u (.inl (by have := World.block_lt_of_cell? w p hp; omega)) hp
theorem RdX.keep (h : RdX lo hi w sz f v l) (hk : ∀ p u, (p.block < lo ∨ hi ≤ p.block) → w.cell? p = some u → w'.cell? p = some u) : RdX lo hi w' sz f v l := fun W hW =>
  h W fun p u hp hu => hW p u hp (hk p u hp hu)
theorem RdX.below (h : RdX lo hi w sz f v l) (hb : Below w.heap.size w w') : RdX lo hi w' sz f v l :=
  h.keep fun p _ _ hu => (hb.cell (World.block_lt_of_cell? w p hu)).trans hu
theorem RdX.set (h : RdX lo hi w sz f v l) {b : Nat} (h1 : lo ≤ b) (h2 : b < hi) (o : Nat) (u : Value) : RdX lo hi (w.setCell ⟨b, o, none⟩ u) sz f v l :=
  h.keep fun p _ hp hu => (World.cell?_of_block (w := w) (Below.heap_setCell w _ u _ (fun e => by have e' : p.block = b := e; omega))).trans hu
theorem RdX.drewN (h : RdX lo hi w sz f v l) (n : Nat) : RdX lo hi (w.drewN n) sz f v l := h
theorem RdX.of_own {base : Nat} {e : TypeId} (h : w.ownsRow base e sz v l.length (l.flatMap f)) (hH : hi ≤ base) : RdX lo hi w sz f v l := fun W hW => by
  obtain ⟨h1, h2⟩ := h
  rcases h2 with ⟨rfl, h2⟩ | ⟨g, cap, cur, rfl, hg, hh, hnc, hcm, hsz, htk⟩
  · obtain rfl := List.eq_nil_of_length_eq_zero h2
    exact ⟨none, 0, rfl, Nat.le_refl _, Nat.zero_le _, by simp, fun h => absurd h (by simp)⟩
  · refine ⟨_, cap, rfl, hnc, hcm, h1, fun _ => ⟨_, rfl, fun j u hu => hW _ _ (.inr (by rw [blk_add]; show hi ≤ g; omega)) ?_⟩⟩
    exact World.ownsRow.cells (w := w) (base := base) (e := e) (size := sz) (n := l.length) ⟨h1, .inr ⟨g, cap, cur, rfl, hg, hh, hnc, hcm, hsz, htk⟩⟩ rfl _ _ hu
theorem RdX.nil : RdX lo hi w sz f (.slice none 0 0) [] := fun _ _ => ⟨none, 0, rfl, Nat.le_refl _, Nat.zero_le _, by simp, fun h => absurd h (by simp)⟩
end
end Go.Proofs.Ytheanmfdfoefoaa
