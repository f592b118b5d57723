/- assartlaw19: same (of two jobs that are the same), picks. -/
import Derived.Test.YtheanmfdfoefoaaPickGn
namespace Go.Proofs.Ytheanmfdfoefoaa
open Go Go.RowKit

set_option maxRecDepth 100000 in
set_option maxHeartbeats 1000000 in
theorem same_calls (z : Int) (bo : Bool) (A B : List MetaD) (vf vt uf ut : Value) (w : World) (h1 : RdT w 4 metaC vf A) (h2 : RdT w 4 metaC vt B) (h3 : RdT w 4 metaC uf A) (h4 : RdT w 4 metaC ut B) (hA : A.length ≤ 1000000) (hB : B.length ≤ 1000000) :
    Calls Try.prog 21 #[.agg #[.int .i64 z, vf, vt, .bool bo], .agg #[.int .i64 z, uf, ut, .bool bo]] w fun e w' => e = .returned (.bool true) ∧ Below w.heap.size w w' := by
  have KM1 := Lib.hid (fun W (h : Below w.heap.size w W) => metas_calls A vf W (h1.below h) hA)
  have KM2 := Lib.hid (fun W (h : Below w.heap.size w W) => metas_calls B vt W (h2.below h) hB)
  have KQ1 : ∀ W x, Below w.heap.size w W → RdT W 4 metaC x A → Calls Try.prog 22 #[x, uf] W fun e w' => e = .returned (.bool true) ∧ Below W.heap.size W w' := fun W x h hx => by
    have := Metas_calls A A x uf W hx (h3.below h)
    rwa [sameM_refl] at this
  have KQ2 : ∀ W x, Below w.heap.size w W → RdT W 4 metaC x B → Calls Try.prog 22 #[x, ut] W fun e w' => e = .returned (.bool true) ∧ Below W.heap.size W w' := fun W x h hx => by
    have := Metas_calls B B x ut W hx (h4.below h)
    rwa [sameM_refl] at this
  replace KQ1 := Lib.hid KQ1
  replace KQ2 := Lib.hid KQ2
  clear h1 h2 h3 h4
  go_enter Try.func21, Try.ntmps21
  go_wp2_with fail
  obtain ⟨W0, hW0⟩ : ∃ W0, W0 = (w.alloc (Obj.cells #[.int .i64 z, vf, vt, .bool bo] 42)).alloc (Obj.cells #[.int .i64 z, uf, ut, .bool bo] 37) := ⟨_, rfl⟩
  rw [← hW0]
  have hB0 : Below w.heap.size w W0 := by rw [hW0]; exact ((Below.refl _ _).alloc (Nat.le_refl _) _).alloc (by simp) _
  have hP : W0.heap[w.heap.size]? = some (.cells (jobA z vf vt bo) 42 (0, 0)) := by rw [hW0]; exact new_old (new_at rfl)
  have hQ : W0.heap[w.heap.size + 1]? = some (.cells (jobA z uf ut bo) 37 (0, 0)) := by rw [hW0]; exact new_at (by simp)
  have hz : w.heap.size + 2 ≤ W0.heap.size := by rw [hW0]; simp
  clear hW0
  obtain ⟨⟨p0, p1, p2, p3⟩, _⟩ := job_cells hP
  obtain ⟨⟨q0, q1, q2, q3⟩, _⟩ := job_cells hQ
  have KS : ∀ W, Below W0.heap.size W0 W → W.cell? ⟨w.heap.size, 0, none⟩ = some (.int .i64 z) ∧ W.cell? ⟨w.heap.size, 1, none⟩ = some vf ∧ W.cell? ⟨w.heap.size, 2, none⟩ = some vt ∧ W.cell? ⟨w.heap.size, 3, none⟩ = some (.bool bo) ∧ W.cell? ⟨w.heap.size + 1, 0, none⟩ = some (.int .i64 z) ∧ W.cell? ⟨w.heap.size + 1, 1, none⟩ = some uf ∧ W.cell? ⟨w.heap.size + 1, 2, none⟩ = some ut ∧ W.cell? ⟨w.heap.size + 1, 3, none⟩ = some (.bool bo) := fun W h =>
    ⟨(below_at h (by omega) _).trans p0, (below_at h (by omega) _).trans p1, (below_at h (by omega) _).trans p2, (below_at h (by omega) _).trans p3, (below_at h (by omega) _).trans q0, (below_at h (by omega) _).trans q1, (below_at h (by omega) _).trans q2, (below_at h (by omega) _).trans q3⟩
  have KB : ∀ W, Below W0.heap.size W0 W → Below w.heap.size w W := fun W h => hB0.trans (h.mono (by omega))
  replace hP := Lib.hid hP
  replace hQ := Lib.hid hQ
  replace KS := Lib.hid KS
  replace KB := Lib.hid KB
  go_region_held3 (fun W => W.cell? ⟨w.heap.size, 0, none⟩ = some (.int .i64 z) ∧ W.cell? ⟨w.heap.size, 1, none⟩ = some vf ∧ W.cell? ⟨w.heap.size, 2, none⟩ = some vt ∧ W.cell? ⟨w.heap.size, 3, none⟩ = some (.bool bo) ∧ W.cell? ⟨w.heap.size + 1, 0, none⟩ = some (.int .i64 z) ∧ W.cell? ⟨w.heap.size + 1, 1, none⟩ = some uf ∧ W.cell? ⟨w.heap.size + 1, 2, none⟩ = some ut ∧ W.cell? ⟨w.heap.size + 1, 3, none⟩ = some (.bool bo))
    (first | (with_reducible exact KS.out _ (Below.refl _ _).drew) | (with_reducible exact KS.out _ hb4) | (with_reducible exact KS.out _ hb3) | (with_reducible exact KS.out _ hb2) | (with_reducible exact KS.out _ hb1))
    (first
      | (go_at_call 22; refine (KQ2.out _ v3 (KB.out _ hb3) (Rd.of_own hown3)).mono ?_; rintro e w4 ⟨rfl, hb4'⟩; have hb4 := hb3.trans (hb4'.mono hb3.size))
      | (go_at_call 23; refine (KM2.out _ (KB.out _ hb2)).mono ?_; rintro e w3 ⟨v3, rfl, hown3, hb3'⟩; have hb3 := hb2.trans (hb3'.mono hb2.size))
      | (go_at_call 22; refine (KQ1.out _ v1 (KB.out _ hb1) (Rd.of_own hown1)).mono ?_; rintro e w2 ⟨rfl, hb2'⟩; have hb2 := hb1.trans (hb2'.mono hb1.size))
      | (go_at_call 23; refine (KM1.out _ (KB.out _ (Below.refl _ _).drew)).mono ?_; rintro e w1 ⟨v1, rfl, hown1, hb1'⟩; have hb1 := (Below.refl W0.heap.size W0).drew.trans hb1'))
  go_wp2_with fail
  go_ret
  exact ⟨rfl, KB.out _ hb4⟩

def p1 : MetaD := ⟨1, 1, ⟨#[97]⟩, ⟨#[99]⟩⟩
def p2 : MetaD := ⟨2, 1, ⟨#[98]⟩, ⟨#[100]⟩⟩
def p3 : MetaD := ⟨3, 1, ⟨#[97]⟩, ⟨#[97]⟩⟩
def p4 : MetaD := ⟨4, 1, ⟨#[120]⟩, ⟨#[122]⟩⟩
def picksS : StD := ⟨1, 1, 0, fun n => if n = 0 then [p1, p2] else if n = 1 then [p3, p4] else []⟩
theorem picks_next : (nextD picksS ⟨2, 100⟩).1.level = 0 ∧ (nextD picksS ⟨2, 100⟩).1.frm.length = 2 ∧ (nextD picksS ⟨2, 100⟩).1.too.length = 1 ∧ ((nextD picksS ⟨2, 100⟩).1.too.map (·.file)) = [3] ∧ (nextD picksS ⟨2, 100⟩).1.bottom = true ∧ (nextD picksS ⟨2, 100⟩).2.1 = true ∧ (nextD picksS ⟨2, 100⟩).2.2 = 0 := by
  decide +kernel
theorem picks_gd : Gd picksS 30 := by
  refine ⟨fun n m hm => ?_, fun n hn => ?_⟩
  · simp only [picksS] at hm
    split at hm
    · simp only [List.mem_cons, List.not_mem_nil, or_false] at hm; rcases hm with rfl | rfl <;> decide +kernel
    · split at hm
      · simp only [List.mem_cons, List.not_mem_nil, or_false] at hm; rcases hm with rfl | rfl <;> decide +kernel
      · simp at hm
  · simp only [picksS]
    split
    · simp
    · split <;> simp

set_option maxRecDepth 100000 in
set_option maxHeartbeats 1000000 in
theorem picks_calls (w : World) : Calls Try.prog 20 #[] w fun e w' => e = .returned (.bool true) ∧ Below w.heap.size w w' := by
  obtain ⟨r1, r2, r3, r4, r5, r6, r7⟩ := picks_next
  obtain ⟨r, hr⟩ : ∃ r, nextD picksS ⟨2, 100⟩ = r := ⟨_, rfl⟩
  obtain ⟨W, hW⟩ : ∃ W, W = ((w.alloc (Obj.cells #[.int .i64 1, .int .i64 1, .int .i64 0, .slice (some ⟨w.heap.size + 1, 0, none⟩) 2 2, .slice (some ⟨w.heap.size + 1 + 1, 0, none⟩) 2 2, .slice none 0 0, .slice none 0 0] 33)).alloc (Obj.cells #[.int .i64 1, .int .i64 1, .string ⟨#[97]⟩, .string ⟨#[99]⟩, .int .i64 2, .int .i64 1, .string ⟨#[98]⟩, .string ⟨#[100]⟩] 51)).alloc (Obj.cells #[.int .i64 3, .int .i64 1, .string ⟨#[97]⟩, .string ⟨#[97]⟩, .int .i64 4, .int .i64 1, .string ⟨#[120]⟩, .string ⟨#[122]⟩] 51) := ⟨_, rfl⟩
  have hB : Below w.heap.size w W := by rw [hW]; exact (((Below.refl _ _).alloc (Nat.le_refl _) _).alloc (by simp) _).alloc (by simp; omega) _
  have h1 : RdT W 4 metaC (.slice (some ⟨w.heap.size + 1, 0, none⟩) 2 2) [p1, p2] := by rw [hW]; exact Rd_block (new_old (new_at (by simp))) rfl (Nat.le_refl _) (by decide)
  have h2 : RdT W 4 metaC (.slice (some ⟨w.heap.size + 1 + 1, 0, none⟩) 2 2) [p3, p4] := by rw [hW]; exact Rd_block (new_at (by simp)) rfl (Nat.le_refl _) (by decide)
  have hlv : RdLv W (fun n => if n = 0 then .slice (some ⟨w.heap.size + 1, 0, none⟩) 2 2 else if n = 1 then .slice (some ⟨w.heap.size + 1 + 1, 0, none⟩) 2 2 else .slice none 0 0) picksS := fun n hn => by
    obtain rfl | rfl | rfl | rfl : n = 0 ∨ n = 1 ∨ n = 2 ∨ n = 3 := by omega
    · exact h1
    · exact h2
    · exact rd_nil
    · exact rd_nil
  have KN := Next_calls picksS _ ⟨2, 100⟩ W hlv picks_gd
  rw [hr] at KN r1 r2 r3 r4 r5 r6 r7
  replace KN := Lib.hid KN
  replace hB := Lib.hid hB
  clear hr h1 h2 hlv
  obtain ⟨⟨lv, fr, too, bt⟩, ok, er⟩ := r
  simp only at r1 r2 r3 r4 r5 r6 r7
  subst r1 r5 r6 r7
  obtain ⟨x, rfl⟩ : ∃ x, too = [x] := by
    match too, r3 with
    | [x], _ => exact ⟨x, rfl⟩
  simp only [List.map_cons, List.map_nil, List.cons.injEq, and_true] at r4
  replace r2 := Lib.hid r2
  replace r4 := Lib.hid r4
  clear r3
  go_enter Try.func20, Try.ntmps20
  go_wp2_with fail
  subst hW
  refine KN.out.mono ?_
  rintro e w1 ⟨vf, vt, rfl, hof, hot, hb1⟩
  obtain ⟨A1, q1, hv1, _, _, _, _⟩ := Rd.of_own hof
  obtain ⟨A2, q2, hv2, _, _, _, _⟩ := Rd.of_own hot
  subst hv1 hv2
  obtain ⟨b, off, m, hA, hblt, hm, c0, _, _, _⟩ := atMeta (l := [x]) (Rd.of_own hot) (Below.refl _ _) (k := 0) (by simp)
  subst hA
  have hmx : m = x := by have := hm.out; simpa using this.symm
  subst hmx
  simp only [Nat.zero_mul, Nat.add_zero] at c0
  rw [r4.out] at c0
  have hBW := hB.out.trans (hb1.mono hB.out.size)
  have hs1 := hBW.size
  have hc : ∀ o : Obj, (w1.alloc o).cell? ⟨b, off, none⟩ = some (.int .i64 3) := fun o => (below_at ((Below.refl w1.heap.size w1).alloc (Nat.le_refl _) o) hblt _).trans c0
  have hl1 : ([m] : List MetaD).length = 1 := rfl
  have hl2 := r2.out
  rw [hl2]
  clear hb1 hof hot c0 KN hB hl2 hm
  go_wp2_with fail
  try (go_quiet (fail); go_wp2_with fail)
  go_ret
  first | exact ⟨rfl, hBW.alloc hs1 _⟩ | exact ⟨rfl, below_drewN (hBW.alloc hs1 _) _⟩
end Go.Proofs.Ytheanmfdfoefoaa
