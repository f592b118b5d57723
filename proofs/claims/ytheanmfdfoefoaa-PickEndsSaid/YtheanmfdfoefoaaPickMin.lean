/- slices.MinFunc at tables, with pick's closure. -/
import Derived.Test.YtheanmfdfoefoaaPickSl
namespace Go.Proofs.Ytheanmfdfoefoaa
open Go Go.RowKit

set_option maxRecDepth 100000 in
set_option maxHeartbeats 800000 in
theorem MinFunc_calls (l : List MetaD) (v : Value) (w : World) (hv : RdT w 4 metaC v l) (hl : 0 < l.length) (hs : ∀ m ∈ l, 1 ≤ m.file ∧ m.file ≤ 999999) :
    Calls Try.prog 84 #[v, .func (.func 85) #[] #[]] w fun e w' => e = .returned (.agg #[.int .i64 (leastM l).file, .int .i64 (leastM l).size, .string (leastM l).first, .string (leastM l).last]) ∧ Below w.heap.size w w' := by
  have HV := Lib.hid hv
  have HS := Lib.hid hs
  have hne : l ≠ [] := by intro h; rw [h] at hl; simp at hl
  obtain ⟨A, c, rfl, hnc, hcm⟩ := hv.len
  obtain ⟨b, off, m, hA, hblt, hm, c0, c1, p2, c3⟩ := atMeta hv (Below.refl _ _) hl
  have hhd : leastTo l 1 = m := by rw [leastTo_one hne]; cases l with
    | nil => simp at hl
    | cons x l => simpa [headM] using hm.out
  replace hhd := Lib.hid hhd
  replace hne := Lib.hid hne
  subst hA
  simp only [Nat.zero_mul, Nat.add_zero] at c0 c1 p2 c3
  have hl' : (0 : Int) < l.length := by omega
  have hl1 : ¬ (l.length : Int) < 1 := by omega
  have heg : ∀ (args : Array Value) (w : World), (callFunc 85 args).run Try.prog w = .ok (.enter 85 args) w := fun _ _ => by kernel_rfl
  clear hs hv
  go_enter Try.func84, Try.ntmps84
  go_wp2_with fail
  clear c0 c1 p2 c3
  go_loopw [6] (fun iv wr => ∃ k : Nat, 1 ≤ k ∧ k ≤ l.length ∧ iv = .int .i64 (k : Int) ∧ Hid (wr.heap[w.heap.size + 1]? = some (.cells (metaVA (leastTo l k)) 51 (0, 0))) ∧ Hid (wr.heap[w.heap.size]? = some (.cells (metaVA ⟨0, 0, ⟨#[]⟩, ⟨#[]⟩⟩) 51 (0, 0))) ∧ Below w.heap.size w wr)
    (fun iv _ => l.length - (intOf iv).toNat)
  case atStart => exact ⟨1, by omega, by omega, rfl, by show _ = _; rw [hhd.out]; exact new_at (by simp), new_old (new_at rfl), ((Below.refl _ _).alloc (Nat.le_refl _) _).alloc (by simp) _⟩
  case round =>
    obtain ⟨k, hk1, hk, rfl, hblk, hres, hb⟩ := hrel
    have hsz := hb.size
    have hlt := lt_of_at hblk.out
    have hleast : leastTo l k ∈ l := leastTo_mem hne.out
    obtain ⟨y, hy⟩ : ∃ y, leastTo l k = y := ⟨_, rfl⟩
    rw [hy] at hblk hleast
    have hyb := HS.out y hleast
    obtain ⟨⟨d0, d1, d2, d3⟩, dfr⟩ := meta_cells hblk.out
    have fr0 := dfr 0
    have fr1 := dfr 1
    have fr2 := dfr 2
    have fr3 := dfr 3
    clear dfr
    by_cases hkl : k < l.length
    · have hkl' : (k : Int) < l.length := by omega
      have h0 : (0 : Int) ≤ k := by omega
      obtain ⟨b', off', x, hA, hblt', hx, c0, c1, p2, c3⟩ := atMeta HV.out hb hkl
      injection hA with hA
      injection hA with hA1 hA2
      subst hA1 hA2
      have hxb := HS.out x (by rw [← hx.out]; exact List.getElem_mem _)
      have hnx := leastTo_next hkl
      rw [hx.out, hy] at hnx
      have KC := Lib.hid (fun W => cmp_calls x y W hxb hyb)
      have KS : ∀ W, Below wr.heap.size wr W → W.cell? ⟨b, off + k * 4, none⟩ = some (.int .i64 x.file) ∧ W.cell? ⟨b, off + k * 4 + 1, none⟩ = some (.int .i64 x.size) ∧ W.cell? ⟨b, off + k * 4 + 2, none⟩ = some (.string x.first) ∧ W.cell? ⟨b, off + k * 4 + 3, none⟩ = some (.string x.last) ∧
          W.cell? ⟨w.heap.size + 1, 0, none⟩ = some (.int .i64 y.file) ∧ W.cell? ⟨w.heap.size + 1, 1, none⟩ = some (.int .i64 y.size) ∧ W.cell? ⟨w.heap.size + 1, 2, none⟩ = some (.string y.first) ∧ W.cell? ⟨w.heap.size + 1, 3, none⟩ = some (.string y.last) := fun W h =>
        ⟨(below_at h (by omega) _).trans c0, (below_at h (by omega) _).trans c1, (below_at h (by omega) _).trans p2, (below_at h (by omega) _).trans c3, (below_at h (by omega) _).trans d0, (below_at h (by omega) _).trans d1, (below_at h (by omega) _).trans d2, (below_at h (by omega) _).trans d3⟩
      replace KS := Lib.hid KS
      replace hnx := Lib.hid hnx
      replace hy := Lib.hid hy
      obtain ⟨x1, x2⟩ := hxb
      obtain ⟨y1, y2⟩ := hyb
      go_wp2_with fail
      go_region_held3 (fun W => W.cell? ⟨b, off + k * 4, none⟩ = some (.int .i64 x.file) ∧ W.cell? ⟨b, off + k * 4 + 1, none⟩ = some (.int .i64 x.size) ∧ W.cell? ⟨b, off + k * 4 + 2, none⟩ = some (.string x.first) ∧ W.cell? ⟨b, off + k * 4 + 3, none⟩ = some (.string x.last) ∧
          W.cell? ⟨w.heap.size + 1, 0, none⟩ = some (.int .i64 y.file) ∧ W.cell? ⟨w.heap.size + 1, 1, none⟩ = some (.int .i64 y.size) ∧ W.cell? ⟨w.heap.size + 1, 2, none⟩ = some (.string y.first) ∧ W.cell? ⟨w.heap.size + 1, 3, none⟩ = some (.string y.last))
        (first | exact KS.out _ (Below.refl _ _).drew | exact KS.out _ hb2)
        (((with_reducible refine (KC.out _).mono ?_); rintro e w2 ⟨rfl, hb2'⟩; have hb2 := (Below.refl wr.heap.size wr).drew.trans hb2'))
      clear c0 c1 p2 c3 d0 d1 d2 d3 fr0 fr1 fr2 fr3
      have hblk2 : Hid (w2.heap[w.heap.size + 1]? = some (.cells (metaVA y) 51 (0, 0))) := (hb2.block _ hlt).trans hblk.out
      have hres2 : Hid (w2.heap[w.heap.size]? = some (.cells (metaVA ⟨0, 0, ⟨#[]⟩, ⟨#[]⟩⟩) 51 (0, 0))) := (hb2.block _ (by omega)).trans hres.out
      obtain ⟨⟨d0, d1, d2, d3⟩, dfr⟩ := meta_cells hblk2.out
      have fr0 := dfr 0
      have fr1 := dfr 1
      have fr2 := dfr 2
      have fr3 := dfr 3
      clear dfr
      obtain ⟨c0, c1, p2, c3, _, _, _, _⟩ := KS.out _ hb2
      have hbw := hb.trans (hb2.mono hsz)
      by_cases hf : x.file < y.file
      · have hf' : x.file - y.file < 0 := by omega
        replace hb2' := Lib.hid hb2'
        go_wp2_with fail
        go_roundw
        case rel => exact ⟨k + 1, by omega, by omega, by go_num, by show _ = _; rw [hnx.out, if_pos hf]; exact set4_blk hblk2.out, by show _ = _; rw [set4_far (by omega)]; exact hres2.out, below_set4 hbw (by omega)⟩
        case measure => simp [intOf]; omega
      · have hf' : ¬ x.file - y.file < 0 := by omega
        replace hb2' := Lib.hid hb2'
        go_wp2_with fail
        go_roundw
        case rel => exact ⟨k + 1, by omega, by omega, by go_num, by show _ = _; rw [hnx.out, if_neg hf]; exact hblk2.out, hres2, hbw⟩
        case measure => simp [intOf]; omega
    · obtain rfl : k = l.length := by omega
      have hfin : leastM l = y := by rw [← hy]; unfold leastM leastTo; rw [List.take_length]
      replace hfin := Lib.hid hfin
      replace hy := Lib.hid hy
      obtain ⟨⟨g0, g1, g2, g3⟩, gfr⟩ := meta_cells hres.out
      have gr0 := gfr 0
      have gr1 := gfr 1
      have gr2 := gfr 2
      have gr3 := gfr 3
      clear gfr
      go_wp2_with fail
      refine bodyPost_ret (v := .agg #[.int .i64 y.file, .int .i64 y.size, .string y.first, .string y.last]) ?_ rfl ⟨by rw [hfin.out], below_set4 hb (by omega)⟩
      simp [results, Try.results84, go_sem, *]
end Go.Proofs.Ytheanmfdfoefoaa
