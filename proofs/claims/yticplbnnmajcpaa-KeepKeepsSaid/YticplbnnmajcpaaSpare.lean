/- assartlaw16.spares. -/
import Derived.Test.YticplbnnmajcpaaKeepD
namespace Go.Proofs.Yticplbnnmajcpaa
open Go Go.RowKit

def sp1 : CellD := ⟨⟨#[97]⟩, 5, 0, ⟨#[]⟩⟩
def sp2 : CellD := ⟨⟨#[97]⟩, 3, 1, ⟨#[120]⟩⟩
def spL : List CellD := [sp1, sp2]
theorem sp_keep1 : keepR spL [] true = ([], 0) := by kernel_rfl
theorem sp_keep2 : keepR spL [4] true = (spL, 0) := by kernel_rfl
theorem rd_blk {w : World} {B : Nat} {cs : List Value} {e : TypeId} {fr : Nat × Nat} {l : List CellD} (h : w.heap[B]? = some (.cells cs.toArray e fr)) (hl : l.flatMap cellC = cs) (hm : l.length ≤ maxLen) : RdT w 4 cellC (.slice (some ⟨B, 0, none⟩) l.length l.length) l := by
  subst hl
  have h' : w.heap[B]? = some (.cells (l.flatMap cellC).toArray e fr) := h
  exact ⟨_, _, rfl, Nat.le_refl _, hm, flatMap_len cellC_len l, fun _ => ⟨_, rfl, fun j u hu => World.news_of_block h' j u (by simpa using hu)⟩⟩
theorem rd_ints {w : World} {B : Nat} {cs : List Value} {e : TypeId} {fr : Nat × Nat} {l : List Int} (h : w.heap[B]? = some (.cells cs.toArray e fr)) (hl : l.flatMap intC = cs) (hm : l.length ≤ maxLen) : RdT w 1 intC (.slice (some ⟨B, 0, none⟩) l.length l.length) l := by
  subst hl
  have h' : w.heap[B]? = some (.cells (l.flatMap intC).toArray e fr) := h
  exact ⟨_, _, rfl, Nat.le_refl _, hm, flatMap_len intC_len l, fun _ => ⟨_, rfl, fun j u hu => World.news_of_block h' j u (by simpa using hu)⟩⟩
theorem rd_none {w : World} : RdT w 1 intC (.slice none 0 0) [] := ⟨none, 0, rfl, Nat.le_refl _, Nat.zero_le _, by simp, fun h => absurd h (by simp)⟩
set_option maxRecDepth 100000 in
set_option maxHeartbeats 1000000 in
theorem spares_calls (w : World) : Calls Try.prog 6 #[] w fun e w' => e = .returned (.bool true) ∧ Below w.heap.size w w' := by
  have K1 := fun W h => Keep_calls spL [] true (.slice (some ⟨w.heap.size, 0, none⟩) 2 2) (.slice none 0 0) W h rd_none (by decide) (by decide)
  rw [sp_keep1] at K1
  have K2 := fun B W h h2 => Keep_calls spL [4] true (.slice (some ⟨w.heap.size, 0, none⟩) 2 2) (.slice (some ⟨B, 0, none⟩) 1 1) W h h2 (by decide) (by decide)
  rw [sp_keep2] at K2
  replace K1 := Lib.hid K1
  replace K2 := Lib.hid K2
  go_enter Try.func6, Try.ntmps6
  go_wp2_with fail
  obtain ⟨w1, hw1⟩ : ∃ w1, w1 = w.alloc (.cells #[.string ⟨#[97]⟩, .int .i64 5, .int .i64 0, .string ⟨#[]⟩, .string ⟨#[97]⟩, .int .i64 3, .int .i64 1, .string ⟨#[120]⟩] 35) := ⟨_, rfl⟩
  rw [← hw1]
  have hL : RdT w1 4 cellC (.slice (some ⟨w.heap.size, 0, none⟩) 2 2) spL := by rw [hw1]; exact rd_blk (l := spL) (cs := [.string ⟨#[97]⟩, .int .i64 5, .int .i64 0, .string ⟨#[]⟩, .string ⟨#[97]⟩, .int .i64 3, .int .i64 1, .string ⟨#[120]⟩]) (new_at rfl) rfl (by decide)
  have hb1 : Below w.heap.size w w1 := by rw [hw1]; exact (Below.refl _ _).alloc (Nat.le_refl _) _
  clear hw1
  refine (K1.out w1 hL).mono ?_
  rintro e w2 ⟨v2, rfl, hown2, hb2⟩
  have hL2 := hL.below hb2
  have hb2' := hb1.trans (hb2.mono hb1.size)
  obtain ⟨A2, c2, rfl, _, _⟩ : ∃ A2 c2, v2 = .slice A2 0 c2 ∧ True ∧ True := by
    obtain ⟨A2, c2, hov, _⟩ := Rd.of_own hown2
    exact ⟨A2, c2, hov, trivial, trivial⟩
  clear hown2 hb1 hb2 hL
  go_wp2_with fail
  obtain ⟨w3, hw3⟩ : ∃ w3, w3 = w2.alloc (.cells #[.int .i64 4] 3) := ⟨_, rfl⟩
  rw [← hw3]
  have hI : RdT w3 1 intC (.slice (some ⟨w2.heap.size, 0, none⟩) 1 1) [4] := by rw [hw3]; exact rd_ints (l := [4]) (cs := [.int .i64 4]) (new_at rfl) rfl (by decide)
  have hb3 : Below w2.heap.size w2 w3 := by rw [hw3]; exact (Below.refl _ _).alloc (Nat.le_refl _) _
  clear hw3
  have hL3 := hL2.below hb3
  refine (K2.out w2.heap.size w3 hL3 hI).mono ?_
  rintro e w4 ⟨v4, rfl, hown4, hb4⟩
  have hL4 := hL3.below hb4
  have hb4' := hb2'.trans ((hb3.trans (hb4.mono hb3.size)).mono hb2'.size)
  have hR4 : RdT w4 4 cellC v4 spL := Rd.of_own hown4
  have KC := Cells_calls spL spL v4 (.slice (some ⟨w.heap.size, 0, none⟩) 2 2) w4 hR4 hL4
  rw [sameC_refl] at KC
  replace KC := Lib.hid KC
  replace hb4' := Lib.hid hb4'
  clear hL2 hb2' hI hb3 hL3 hL4 hown4 hb4 hR4 K1 K2
  go_wp2_with (go_at_call 10; refine KC.out.mono ?_; rintro e w5 ⟨rfl, hb5⟩)
  go_ret
  exact ⟨rfl, hb4'.out.trans (hb5.mono hb4'.out.size)⟩
end Go.Proofs.Yticplbnnmajcpaa
