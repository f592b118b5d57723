/- assartref19.DocNext. -/
import Derived.Test.YtheanmfdfoefoaaPickNext
import Derived.Test.YtheanmfdfoefoaaPickRef
namespace Go.Proofs.Ytheanmfdfoefoaa
open Go Go.RowKit

/-- The three blocks of DocNext. -/
structure NR (w wr : World) (s : StD) (f : Nat → Value) (lim : LimD) : Prop where
  bs : wr.heap[w.heap.size]? = some (.cells (stA s f) 28 (0, 0))
  bl : wr.heap[w.heap.size + 1]? = some (.cells #[.int .i64 lim.tables, .int .i64 lim.bytes] 24 (0, 0))
  bo : wr.heap[w.heap.size + 2]? = some (.cells (jobA 0 (.slice none 0 0) (.slice none 0 0) false) 37 (0, 0))
  below : Below w.heap.size w wr
section
variable {w wr w1 : World} {s : StD} {f : Nat → Value} {lim : LimD}
theorem NR.call (h : NR w wr s f lim) (hb : Below wr.heap.size wr w1) : NR w w1 s f lim := by
  have := lt_of_at h.bo
  exact ⟨(hb.block _ (by omega)).trans h.bs, (hb.block _ (by omega)).trans h.bl, (hb.block _ (by omega)).trans h.bo, h.below.trans (hb.mono h.below.size)⟩
theorem NR.drewN (h : NR w wr s f lim) (n : Nat) : NR w (wr.drewN n) s f lim := ⟨h.bs, h.bl, h.bo, below_drewN h.below n⟩
theorem NR.set (h : NR w wr s f lim) {J o : Nat} (hJ : w.heap.size + 3 ≤ J) (v : Value) : NR w (wr.setCell ⟨J, o, none⟩ v) s f lim := by
  have hne : ∀ g, g ≠ J → (wr.setCell ⟨J, o, none⟩ v).heap[g]? = wr.heap[g]? := fun g hg => Below.heap_setCell wr _ v g hg
  exact ⟨(hne _ (by omega)).trans h.bs, (hne _ (by omega)).trans h.bl, (hne _ (by omega)).trans h.bo, h.below.setCell (by show w.heap.size ≤ J; omega) v⟩
end
def DNPost (w : World) (r : JobD × Bool × Int) (e : Ending) (w' : World) : Prop :=
  ∃ vf vt, e = .returned (.tuple #[.agg #[.int .i64 r.1.level, vf, vt, .bool r.1.bottom], .bool r.2.1, .int .i64 r.2.2]) ∧ RdT w' 4 metaC vf r.1.frm ∧ RdT w' 4 metaC vt r.1.too ∧ Below w.heap.size w w'

set_option maxRecDepth 100000 in
set_option maxHeartbeats 4000000 in
theorem DocNext_yes (s : StD) (f : Nat → Value) (lim : LimD) (w : World) (hf : RdLv w f s) (g : Gd s 30) (hlim : limB lim = true) :
    Calls Try.prog 16 #[.agg #[.int .i64 s.log, .int .i64 s.next, .int .i64 s.seq, f 0, f 1, f 2, f 3], .agg #[.int .i64 lim.tables, .int .i64 lim.bytes]] w (DNPost w (nextD s lim)) := by
  have HF := Lib.hid hf
  have HG := Lib.hid g
  have HFEW := Lib.hid (fun k hk => Nat.le_trans (g.few k hk) (show 30 ≤ 1000000 by omega))
  have hnd : nextD s lim = nextS s lim (3 - 0) 0 := by unfold nextD; rw [if_neg (by rw [hlim]; simp)]
  obtain ⟨r, hr⟩ : ∃ r, nextD s lim = r := ⟨_, rfl⟩
  rw [hr] at hnd ⊢
  clear hr hf g
  replace hnd := Lib.hid hnd
  have KL := Lib.hid (fun W => RightL_calls lim W)
  rw [hlim] at KL
  obtain ⟨b1, b2, b3, b4⟩ := (limB_iff lim).1 hlim
  go_enter Try.func16, Try.ntmps16
  go_wp2_with fail
  refine (KL.out _).mono ?_
  rintro e w1 ⟨rfl, hb1⟩
  have D1 : NR w w1 s f lim := NR.call ⟨new_old (new_old (new_at rfl)), new_old (new_at (by simp)), new_at (by simp), (((Below.refl _ _).alloc (Nat.le_refl _) _).alloc (by simp) _).alloc (by simp; omega) _⟩ hb1
  clear KL hb1
  replace D1 := Lib.hid D1
  go_wp2_with fail
  go_loopw [7] (fun iv wr => ∃ (k : Nat) (z : Int), k ≤ 3 ∧ z = k ∧ iv = .int .i64 z ∧ Hid (r = nextS s lim (3 - k) k) ∧ Hid (NR w wr s f lim))
    (fun iv _ => 3 - (intOf iv).toNat)
  case atStart => exact ⟨0, 0, by omega, rfl, rfl, hnd, D1⟩
  case round =>
    clear hnd D1
    obtain ⟨k, z, hk, hzk, rfl, hr, hD⟩ := hrel
    have D := hD.out
    obtain ⟨⟨p0, p1, p2, p3⟩, pfr⟩ := job_cells D.bo
    have pf0 := pfr 0
    have pf1 := pfr 1
    have pf2 := pfr 2
    have pf3 := pfr 3
    clear pfr
    obtain ⟨c3, c4, c5, c6⟩ := stA_cells D.bs
    have l0 : wr.cell? ⟨w.heap.size + 1, 0, none⟩ = some (.int .i64 lim.tables) := by have := D.bl; simp [World.cell?, this]
    have l1 : wr.cell? ⟨w.heap.size + 1, 1, none⟩ = some (.int .i64 lim.bytes) := by have := D.bl; simp [World.cell?, this]
    have hw := D.below
    by_cases hk3 : k < 3
    · have hcs : (k = 0 ∧ z = 0) ∨ (k = 1 ∧ z = 1) ∨ (k = 2 ∧ z = 2) := by omega
      rcases hcs with ⟨rfl, rfl⟩ | ⟨rfl, rfl⟩ | ⟨rfl, rfl⟩
      all_goals clear hzk hk3 hk
      · have hfd : (fullD lim 0).1 = lim.tables := by unfold fullD; rw [if_neg (by rw [hlim]; simp)]; simp
        have hstep : Hid (r = if fullB (s.lv 0) 0 (fullD lim 0).1 then (jobS s 0, true, 0) else nextS s lim 2 1) := by show _ = _; rw [hr.out]; rfl
        have hwr : IntKind.i64.wrap (8 * lim.bytes) = 8 * lim.bytes := IntWalk.i64_in _ (by omega)
        obtain ⟨A0, q0, hf0, hq0, hq1⟩ := ((HF.out 0 (by omega)).below D.below).len
        rw [hf0] at c3
        replace hwr := Lib.hid hwr
        replace hf0 := Lib.hid hf0
        by_cases hc : ((s.lv 0).length : Int) < lim.tables
        case' pos => have hfb : fullB (s.lv 0) 0 (fullD lim 0).1 = false := by rw [hfd]; unfold fullB; rw [if_pos rfl]; simp; omega
        case' neg =>
          have hfb : fullB (s.lv 0) 0 (fullD lim 0).1 = true := by rw [hfd]; unfold fullB; rw [if_pos rfl]; simp; omega
          have hcd : decide (((s.lv 0).length : Int) < lim.tables) = false := by simp; omega
        case pos =>
          have hr2 : Hid (r = nextS s lim 2 1) := by show _ = _; rw [hstep.out, hfb]; rfl
          replace hfd := Lib.hid hfd
          replace hfb := Lib.hid hfb
          replace D := Lib.hid D
          clear hstep
          have hwr := hwr.out
          go_wp2_with fail
          go_quiet (fail)
          go_wp2_with fail
          go_roundw
          case rel => exact ⟨1, 1, by omega, rfl, rfl, hr2, D.out.drewN _⟩
          case measure => simp [intOf]
        case neg =>
          have hrr : r = (jobS s 0, true, 0) := by rw [hstep.out, hfb]; rfl
          have hps : 0 < (s.lv 0).length := full_pos (n := 0) (by omega) hlim hfb
          have hJ : Hid (r.1.level = 0 ∧ r.1.frm = frmS s 0 ∧ r.1.too = tooS s 0 ∧ r.1.bottom = botS s 0 2 ∧ r.2.1 = true ∧ r.2.2 = 0) := by rw [hrr]; exact ⟨rfl, rfl, rfl, rfl, rfl, rfl⟩
          replace hfd := Lib.hid hfd
          replace hfb := Lib.hid hfb
          replace D := Lib.hid D
          clear hstep hrr hr
          have hwr' := hwr.out
          go_wp2_with fail
          go_quiet (fail)
          have D2 := D.out.drewN nq
          clear hc hcd hwr' c3 c4 c5 c6 l0 l1 p0 p1 p2 p3 pf0 pf1 pf2 pf3 D
          generalize wr.drewN nq = w2 at *
          have hlv2 : RdT w2 4 metaC (.slice A0 (s.lv 0).length q0) (s.lv 0) := by rw [← hf0.out]; exact (HF.out 0 (by omega)).below D2.below
          have HLV := Lib.hid hlv2
          have HSRC := Lib.hid (fun (W : World) (hW : ∀ b, b < w2.heap.size → W.heap[b]? = w2.heap[b]?) => Rd.src (P := Try.prog) (Rd.over hlv2 hW) (metaC_one' (s.lv 0)) Try.underlying25)
          have hlen0 := HFEW.out 0 (by omega)
          have hH2 := lt_of_at D2.bo
          replace D2 := Lib.hid D2
          clear hlv2
          go_wp2_with (at_builtin; refine wpL_app et_meta (.tmp 62) (.tmp 63) rfl rfl (own0 (base := w2.heap.size) (heap_alloc_new w2 _) (Nat.le_refl _)) rfl rfl (HSRC.out _ (fun b hb => Below.heap_alloc _ _ _ hb)) (by omega) (by simp) ?_; intro v3 w3 hown3 hg3 hat3; have hb3 := grow_below hg3 ((Below.refl w2.heap.size w2).alloc (Nat.le_refl _) _) (Nat.le_refl _) (fun k hk => by simp [Value.ownBlock] at hk; omega); have hown3' : w3.ownsRow w2.heap.size 56 4 v3 (s.lv 0).length ((s.lv 0).flatMap metaC) := own_cast hown3 (by omega) (by simp); obtain ⟨A3, q3, hv3, hq30, hq31, _, _⟩ := Rd.of_own hown3'; subst hv3;  clear hown3 hg3 hat3 HSRC)
          obtain ⟨w5, hw5⟩ : ∃ w5, w5 = w3.alloc (Obj.cells #[.int .i64 0, .slice A3 (s.lv 0).length q3, .slice none 0 0, .bool false] 37) := ⟨_, rfl⟩
          rw [← hw5]
          have hb5 : Below w3.heap.size w3 w5 := by rw [hw5]; exact (Below.refl _ _).alloc (Nat.le_refl _) _
          have hs3 := hb3.size
          obtain ⟨J, hJe⟩ : ∃ J, w3.heap.size = J := ⟨_, rfl⟩
          rw [hJe]
          have hJ5 : Hid (w5.heap[J]? = some (.cells (jobA 0 (.slice A3 (frmS s 0).length q3) (.slice none 0 0) false) 37 (0, 0))) := by show _ = _; rw [hw5, ← hJe]; exact new_at rfl
          have D5 : NR w w5 s f lim := (D2.out.call hb3).call hb5
          have hof5 : w5.ownsRow (w.heap.size + 3) 56 4 (.slice A3 (frmS s 0).length q3) (frmS s 0).length ((frmS s 0).flatMap metaC) := own_below hown3' hb5 (by omega)
          have hfJ : Hid ((Value.slice A3 (frmS s 0).length q3).ownBlock ≠ some J) := fun h => by have := (hown3'.lt J h).2; omega
          have hpf : 0 < (frmS s 0).length := hps
          have hflen : (frmS s 0).length ≤ 1000000 := hlen0
          have hJ3 : w.heap.size + 3 ≤ J := by omega
          clear hb5 hb3 hs3 hown3' hw5 hJe HLV hH2 D2
          have HJ5 := hJ5
          have hJlt5 := lt_of_at hJ5.out
          obtain ⟨⟨j0, j1, j2, j3⟩, _⟩ := job_cells hJ5.out
          obtain ⟨bf, of_, m0, hAf, hbf, hm0, e0, e1, e2, e3⟩ := atMeta (Rd.of_own hof5) (Below.refl _ _) hpf
          simp only [Nat.zero_mul, Nat.add_zero] at e0 e1 e2 e3
          subst hAf
          try simp only [Nat.zero_add] at e0 e1 e2 e3
          have hhdf : headM (frmS s 0) = m0 := by
            have := hm0.out
            cases hh : frmS s 0 with
            | nil => rw [hh] at hpf; simp at hpf
            | cons x l => simp only [hh, List.getElem_cons_zero] at this; simpa [headM] using this
          replace hhdf := Lib.hid hhdf
          have hpfi : (0 : Int) < ((frmS s 0).length : Int) := by omega
          have hmin := @Lib.run_min_strs Try.prog
          have hmax := @Lib.run_max_strs Try.prog
          replace hof5 := Lib.hid hof5
          replace D5 := Lib.hid D5
          go_wp2_with fail
          go_quiet (fail)
          go_wp2_with fail
          clear j0 j1 j2 j3 e0 e1 e2 e3
          go_loopw [12, 13, 14] (fun av zv iv wq5 => ∃ k : Nat, 1 ≤ k ∧ k ≤ (frmS s 0).length ∧ iv = .int .i64 (k : Int) ∧ av = .string (minF m0.first ((frmS s 0).take k)) ∧ zv = .string (maxF m0.last ((frmS s 0).take k)) ∧ Hid (Below w5.heap.size w5 wq5))
            (fun _ _ iv _ => (frmS s 0).length - (intOf iv).toNat)
          case atStart => exact ⟨1, by omega, by omega, rfl, by rw [take_next hpf, hm0.out]; simp [minF, minS_self], by rw [take_next hpf, hm0.out]; simp [maxF, maxS_self], below_drewN (Below.refl _ _) _⟩
          case round =>
            obtain ⟨k, hk1, hk, rfl, rfl, rfl, hBq5⟩ := hrel
            obtain ⟨wq5, rfl⟩ : ∃ wq5 : World, wq5 = wr := ⟨_, rfl⟩
            have hsz5 := hBq5.out.size
            obtain ⟨⟨j0, j1, j2, j3⟩, jfr⟩ := job_cells ((hBq5.out.block _ hJlt5).trans hJ5.out)
            have jf2 := jfr 2
            clear jfr
            by_cases hkl : k < (frmS s 0).length
            · have hkl' : (k : Int) < (frmS s 0).length := by omega
              have h0 : (0 : Int) ≤ k := by omega
              obtain ⟨b', off', x, hA, hblt', hx, e0, e1, e2, e3⟩ := atMeta (Rd.of_own hof5.out) hBq5.out hkl
              injection hA with hA
              injection hA with hA1 hA2
              subst hA1 hA2
              try simp only [Nat.zero_add] at e0 e1 e2 e3
              have n1 := minF_next (a := m0.first) hkl
              have n2 := maxF_next (a := m0.last) hkl
              rw [hx.out] at n1 n2
              replace n1 := Lib.hid n1
              replace n2 := Lib.hid n2
              generalize minF m0.first ((frmS s 0).take k) = av at *
              generalize maxF m0.last ((frmS s 0).take k) = zv at *
              go_wp2_with fail
              try (go_quiet (fail); go_wp2_with fail)
              go_roundw
              case rel => first | exact ⟨k + 1, by omega, by omega, by go_num, by rw [n1.out], by rw [n2.out], hBq5⟩ | exact ⟨k + 1, by omega, by omega, by go_num, by rw [n1.out], by rw [n2.out], below_drewN hBq5.out _⟩
              case measure => simp [intOf]; omega
            · obtain rfl : k = (frmS s 0).length := by omega
              rw [List.take_length]
              have ea : minF m0.first (frmS s 0) = spanA (frmS s 0) := by unfold spanA; rw [hhdf.out]
              have ez : maxF m0.last (frmS s 0) = spanZ (frmS s 0) := by unfold spanZ; rw [hhdf.out]
              rw [ea, ez]
              clear ea ez
              obtain ⟨a1, ha1⟩ : ∃ a1, spanA (frmS s 0) = a1 := ⟨_, rfl⟩
              obtain ⟨z1, hz1⟩ : ∃ z1, spanZ (frmS s 0) = z1 := ⟨_, rfl⟩
              rw [ha1, hz1]
              have htoo : tooS s 0 = touchL (s.lv 1) a1 z1 := by unfold tooS; rw [ha1, hz1]
              have D6 := D5.out.call hBq5.out
              have KT := Lib.hid (touchR_calls (s.lv 1) a1 z1 (f 1) wq5 ((HF.out 1 (by omega)).below D6.below) (HFEW.out 1 (by omega)))
              rw [← htoo] at KT
              replace ha1 := Lib.hid ha1
              replace hz1 := Lib.hid hz1
              have hlt0 : (tooS s 0).length ≤ 1000000 := by
                have h1 := HFEW.out 1 (by omega)
                rw [htoo]; exact Nat.le_trans (List.length_filter_le _ _) h1
              replace htoo := Lib.hid htoo
              obtain ⟨c3, c4, c5, c6⟩ := stA_cells D6.bs
              go_wp2_with fail
              refine KT.out.mono ?_
              rintro e w6 ⟨vt, rfl, hownt, hb6⟩
              clear KT c3 c4 c5 c6 j0 j1 j2 j3 jf2
              have hs6 := hb6.size
              have hBw6 : Below w5.heap.size w5 w6 := hBq5.out.trans (hb6.mono hsz5)
              have D7 := D5.out.call hBw6
              have hof7 := own_below hof5.out hBw6 (Nat.le_refl _)
              have hJ7 := (hBw6.block _ hJlt5).trans hJ5.out
              obtain ⟨⟨j0, j1, j2, j3⟩, jfr⟩ := job_cells hJ7
              have jf2 := jfr 2
              clear jfr
              obtain ⟨At, ct, hvt, hct0, hct1, _, _⟩ := Rd.of_own hownt
              subst hvt
              have htJ : Hid ((Value.slice At (tooS s 0).length ct).ownBlock ≠ some J) := fun h => by have := (hownt.lt J h).1; omega
              have hot7 := own_below hownt (Below.refl _ _) (show w.heap.size + 3 ≤ _ from by omega)
              -- what stays, whatever is stored into the job
              have hset : ∀ (W : World) (o : Nat) (u : Value), NR w W s f lim → W.ownsRow (w.heap.size + 3) 56 4 (.slice (some ⟨bf, of_, none⟩) (frmS s 0).length q3) (frmS s 0).length ((frmS s 0).flatMap metaC) → W.ownsRow (w.heap.size + 3) 56 4 (.slice At (tooS s 0).length ct) (tooS s 0).length ((tooS s 0).flatMap metaC) →
                  Hid (NR w (W.setCell ⟨J, o, none⟩ u) s f lim) ∧ Hid ((W.setCell ⟨J, o, none⟩ u).ownsRow (w.heap.size + 3) 56 4 (.slice (some ⟨bf, of_, none⟩) (frmS s 0).length q3) (frmS s 0).length ((frmS s 0).flatMap metaC)) ∧ Hid ((W.setCell ⟨J, o, none⟩ u).ownsRow (w.heap.size + 3) 56 4 (.slice At (tooS s 0).length ct) (tooS s 0).length ((tooS s 0).flatMap metaC)) := fun W o u hD h1 h2 => by
                have hne : ∀ g, g ≠ J → (W.setCell ⟨J, o, none⟩ u).heap[g]? = W.heap[g]? := fun g hg => Below.heap_setCell W _ u g hg
                refine ⟨hD.set hJ3 u, own_heap h1 (fun g _ => ?_), own_heap h2 (fun g _ => ?_)⟩
                · by_cases hg : g = J
                  · subst hg; exact .inr hfJ.out
                  · exact .inl (hne g hg)
                · by_cases hg : g = J
                  · subst hg; exact .inr htJ.out
                  · exact .inl (hne g hg)
              replace hset := Lib.hid hset
              have hJ8 : Hid ((w6.setCell ⟨J, 2, none⟩ (.slice At (tooS s 0).length ct)).heap[J]? = some (.cells (jobA 0 (.slice (some ⟨bf, of_, none⟩) (frmS s 0).length q3) (.slice At (tooS s 0).length ct) false) 37 (0, 0))) := by
                show _ = _; rw [heap_setCell_same _ _ _ _ _ _ hJ7]; simp [jobA]
              have hset8 := hset.out w6 2 (.slice At (tooS s 0).length ct) D7 hof7 hot7
              replace hJ7 := Lib.hid hJ7
              replace D7 := Lib.hid D7
              replace hof7 := Lib.hid hof7
              replace hot7 := Lib.hid hot7
              clear hownt hBw6 hb6 hs6 D6
              go_wp2_with fail
              clear j0 j1 j2 j3 jf2
              go_loopw [12, 13, 15] (fun av zv iv wq8 => ∃ k : Nat, k ≤ (tooS s 0).length ∧ iv = .int .i64 (k : Int) ∧ av = .string (minF a1 ((tooS s 0).take k)) ∧ zv = .string (maxF z1 ((tooS s 0).take k)) ∧ Hid (wq8.heap[J]? = some (.cells (jobA 0 (.slice (some ⟨bf, of_, none⟩) (frmS s 0).length q3) (.slice At (tooS s 0).length ct) false) 37 (0, 0))) ∧ Hid (NR w wq8 s f lim) ∧ Hid (wq8.ownsRow (w.heap.size + 3) 56 4 (.slice (some ⟨bf, of_, none⟩) (frmS s 0).length q3) (frmS s 0).length ((frmS s 0).flatMap metaC)) ∧ Hid (wq8.ownsRow (w.heap.size + 3) 56 4 (.slice At (tooS s 0).length ct) (tooS s 0).length ((tooS s 0).flatMap metaC)))
                (fun _ _ iv _ => (tooS s 0).length - (intOf iv).toNat)
              case atStart => exact ⟨0, by omega, rfl, rfl, rfl, hJ8, hset8⟩
              case round =>
                clear hk1 hk hkl hJ8 hset8 hJ7 D7 hof7 hot7 hBq5 hsz5
                obtain ⟨k, hk, rfl, rfl, rfl, hJq, hDq, hfq, htq⟩ := hrel
                obtain ⟨wq8, rfl⟩ : ∃ wq8 : World, wq8 = wr := ⟨_, rfl⟩
                obtain ⟨⟨j0, j1, j2, j3⟩, jfr⟩ := job_cells hJq.out
                have jf3 := jfr 3
                clear jfr
                by_cases hkl : k < (tooS s 0).length
                · have hkl' : (k : Int) < (tooS s 0).length := by omega
                  have h0 : (0 : Int) ≤ k := by omega
                  obtain ⟨b', off', x, hA, hblt', hx, e0, e1, e2, e3⟩ := atMeta (Rd.of_own htq.out) (Below.refl _ _) hkl
                  subst hA
                  have n1 := minF_next (a := a1) hkl
                  have n2 := maxF_next (a := z1) hkl
                  rw [hx.out] at n1 n2
                  replace n1 := Lib.hid n1
                  replace n2 := Lib.hid n2
                  generalize minF a1 ((tooS s 0).take k) = av at *
                  generalize maxF z1 ((tooS s 0).take k) = zv at *
                  go_wp2_with fail
                  try (go_quiet (fail); go_wp2_with fail)
                  go_roundw
                  case rel => first | exact ⟨k + 1, by omega, by go_num, by rw [n1.out], by rw [n2.out], hJq, hDq, hfq, htq⟩ | exact ⟨k + 1, by omega, by go_num, by rw [n1.out], by rw [n2.out], hJq, hDq.out.drewN _, hfq, htq⟩
                  case measure => simp [intOf]; omega
                · obtain rfl : k = (tooS s 0).length := by omega
                  rw [List.take_length]
                  have hne : frmS s 0 ≠ [] := by intro h; rw [h] at hpf; simp at hpf
                  have ea : minF a1 (tooS s 0) = spanA (frmS s 0 ++ tooS s 0) := by unfold spanA; rw [headM_append _ _ hne, minF_append, ← ha1.out]; rfl
                  have ez : maxF z1 (tooS s 0) = spanZ (frmS s 0 ++ tooS s 0) := by unfold spanZ; rw [headM_append _ _ hne, maxF_append, ← hz1.out]; rfl
                  rw [ea, ez]
                  clear ea ez hne
                  obtain ⟨a2, ha2⟩ : ∃ a2, spanA (frmS s 0 ++ tooS s 0) = a2 := ⟨_, rfl⟩
                  obtain ⟨z2, hz2⟩ : ∃ z2, spanZ (frmS s 0 ++ tooS s 0) = z2 := ⟨_, rfl⟩
                  rw [ha2, hz2]
                  have HDB : Hid (∀ k, deepB s 0 k = ((touchL (s.lv k) a2 z2).length == 0)) := fun k => by unfold deepB; rw [ha2, hz2]
                  replace ha2 := Lib.hid ha2
                  replace hz2 := Lib.hid hz2
                  have hJ9 : Hid ((wq8.setCell ⟨J, 3, none⟩ (.bool true)).heap[J]? = some (.cells (jobA 0 (.slice (some ⟨bf, of_, none⟩) (frmS s 0).length q3) (.slice At (tooS s 0).length ct) (botS s 0 0)) 37 (0, 0))) := job_set true hJq.out
                  have hset9 := hset.out wq8 3 (.bool true) hDq.out hfq.out htq.out
                  go_wp2_with fail
                  clear j0 j1 j2 j3 jf3
                  go_loopw [16] (fun iv wq9 => ∃ (k : Nat) (z : Int), k ≤ 2 ∧ z = 2 + k ∧ iv = .int .i64 z ∧ Hid (wq9.heap[J]? = some (.cells (jobA 0 (.slice (some ⟨bf, of_, none⟩) (frmS s 0).length q3) (.slice At (tooS s 0).length ct) (botS s 0 k)) 37 (0, 0))) ∧ Hid (NR w wq9 s f lim) ∧ Hid (wq9.ownsRow (w.heap.size + 3) 56 4 (.slice (some ⟨bf, of_, none⟩) (frmS s 0).length q3) (frmS s 0).length ((frmS s 0).flatMap metaC)) ∧ Hid (wq9.ownsRow (w.heap.size + 3) 56 4 (.slice At (tooS s 0).length ct) (tooS s 0).length ((tooS s 0).flatMap metaC)))
                    (fun iv _ => 4 - (intOf iv).toNat)
                  case atStart => exact ⟨0, 2, by omega, rfl, rfl, hJ9, hset9⟩
                  case round =>
                    clear hJ9 hset9 hJq hDq hfq htq hk hkl
                    obtain ⟨k, z, hk, hzk, rfl, hJq, hDq, hfq, htq⟩ := hrel
                    obtain ⟨wq9, rfl⟩ : ∃ wq9 : World, wq9 = wr := ⟨_, rfl⟩
                    obtain ⟨⟨j0, j1, j2, j3⟩, jfr⟩ := job_cells hJq.out
                    have jf3 := jfr 3
                    clear jfr
                    obtain ⟨c3, c4, c5, c6⟩ := stA_cells hDq.out.bs
                    have hJlt9 := lt_of_at hJq.out
                    by_cases hkK : k < 2
                    · have hcs : (k = 0 ∧ z = 2) ∨ (k = 1 ∧ z = 3) := by omega
                      rcases hcs with ⟨rfl, rfl⟩ | ⟨rfl, rfl⟩
                      all_goals clear hzk hkK hk
                      · have hbs : botS s 0 1 = (botS s 0 0 && deepB s 0 2) := rfl
                        have hdb := HDB.out 2
                        obtain ⟨bo, hbo⟩ : ∃ bo, botS s 0 0 = bo := ⟨_, rfl⟩
                        rw [hbo] at j3 hbs hJq
                        replace hbo := Lib.hid hbo
                        cases bo
                        · have hb2 : Hid (botS s 0 1 = false) := by show _ = _; rw [hbs]; rfl
                          have hh := hset.out wq9 3 (.bool false) hDq.out hfq.out htq.out
                          have hj := job_set false hJq.out
                          replace hj := Lib.hid hj
                          clear hbs hdb
                          go_wp2_with fail
                          go_roundw
                          case rel => exact ⟨1, 3, by omega, rfl, rfl, by rw [hb2.out]; exact hj, hh⟩
                          case measure => simp [intOf]
                        · have KT2 := Lib.hid (touchR_calls (s.lv 2) a2 z2 (f 2) wq9 ((HF.out 2 (by omega)).below hDq.out.below) (HFEW.out 2 (by omega)))
                          obtain ⟨tl, htl⟩ : ∃ tl, touchL (s.lv 2) a2 z2 = tl := ⟨_, rfl⟩
                          rw [htl] at KT2 hdb
                          rw [hdb] at hbs
                          clear htl
                          go_wp2_with fail
                          refine KT2.out.mono ?_
                          rintro e w8 ⟨v8, rfl, hown8, hb8⟩
                          clear KT2 c3 c4 c5 c6 j0 j1 j2 j3 jf3
                          obtain ⟨A8, c8, hv8, _, _, _, _⟩ := Rd.of_own hown8
                          subst hv8
                          have hJ8 := (hb8.block _ hJlt9).trans hJq.out
                          obtain ⟨⟨j0, j1, j2, j3⟩, jfr⟩ := job_cells hJ8
                          have jf3 := jfr 3
                          clear jfr
                          have D8 := hDq.out.call hb8
                          have hof8 := own_below hfq.out hb8 (Nat.le_refl _)
                          have hot8 := own_below htq.out hb8 (Nat.le_refl _)
                          obtain ⟨bl, hbl⟩ : ∃ bl, ((tl.length : Int) == 0) = bl := ⟨_, rfl⟩
                          have hh := hset.out w8 3 (.bool bl) D8 hof8 hot8
                          have hj := job_set bl hJ8
                          replace hj := Lib.hid hj
                          have hb2 : Hid (botS s 0 1 = bl) := by
                            show _ = _
                            rw [hbs, ← hbl]
                            rw [Bool.eq_iff_iff]; simp
                          clear hbs hdb hown8 D8 hof8 hot8
                          replace hJ8 := Lib.hid hJ8
                          replace hb8 := Lib.hid hb8
                          go_wp2_with fail
                          go_roundw
                          case rel => exact ⟨1, 3, by omega, rfl, rfl, by rw [hb2.out]; exact hj, hh⟩
                          case measure => simp [intOf]
                      · have hbs : botS s 0 2 = (botS s 0 1 && deepB s 0 3) := rfl
                        have hdb := HDB.out 3
                        obtain ⟨bo, hbo⟩ : ∃ bo, botS s 0 1 = bo := ⟨_, rfl⟩
                        rw [hbo] at j3 hbs hJq
                        replace hbo := Lib.hid hbo
                        cases bo
                        · have hb2 : Hid (botS s 0 2 = false) := by show _ = _; rw [hbs]; rfl
                          have hh := hset.out wq9 3 (.bool false) hDq.out hfq.out htq.out
                          have hj := job_set false hJq.out
                          replace hj := Lib.hid hj
                          clear hbs hdb
                          go_wp2_with fail
                          go_roundw
                          case rel => exact ⟨2, 4, by omega, rfl, rfl, by rw [hb2.out]; exact hj, hh⟩
                          case measure => simp [intOf]
                        · have KT2 := Lib.hid (touchR_calls (s.lv 3) a2 z2 (f 3) wq9 ((HF.out 3 (by omega)).below hDq.out.below) (HFEW.out 3 (by omega)))
                          obtain ⟨tl, htl⟩ : ∃ tl, touchL (s.lv 3) a2 z2 = tl := ⟨_, rfl⟩
                          rw [htl] at KT2 hdb
                          rw [hdb] at hbs
                          clear htl
                          go_wp2_with fail
                          refine KT2.out.mono ?_
                          rintro e w8 ⟨v8, rfl, hown8, hb8⟩
                          clear KT2 c3 c4 c5 c6 j0 j1 j2 j3 jf3
                          obtain ⟨A8, c8, hv8, _, _, _, _⟩ := Rd.of_own hown8
                          subst hv8
                          have hJ8 := (hb8.block _ hJlt9).trans hJq.out
                          obtain ⟨⟨j0, j1, j2, j3⟩, jfr⟩ := job_cells hJ8
                          have jf3 := jfr 3
                          clear jfr
                          have D8 := hDq.out.call hb8
                          have hof8 := own_below hfq.out hb8 (Nat.le_refl _)
                          have hot8 := own_below htq.out hb8 (Nat.le_refl _)
                          obtain ⟨bl, hbl⟩ : ∃ bl, ((tl.length : Int) == 0) = bl := ⟨_, rfl⟩
                          have hh := hset.out w8 3 (.bool bl) D8 hof8 hot8
                          have hj := job_set bl hJ8
                          replace hj := Lib.hid hj
                          have hb2 : Hid (botS s 0 2 = bl) := by
                            show _ = _
                            rw [hbs, ← hbl]
                            rw [Bool.eq_iff_iff]; simp
                          clear hbs hdb hown8 D8 hof8 hot8
                          replace hJ8 := Lib.hid hJ8
                          replace hb8 := Lib.hid hb8
                          go_wp2_with fail
                          go_roundw
                          case rel => exact ⟨2, 4, by omega, rfl, rfl, by rw [hb2.out]; exact hj, hh⟩
                          case measure => simp [intOf]
                    · obtain rfl : k = 2 := by omega
                      obtain rfl : z = 4 := by omega
                      clear hzk hkK hk
                      have D := hDq.out
                      obtain ⟨⟨p0, p1, p2, p3⟩, pfr⟩ := job_cells D.bo
                      have pf0 := pfr 0
                      have pf1 := pfr 1
                      have pf2 := pfr 2
                      have pf3 := pfr 3
                      clear pfr
                      have hw9 := D.below
                      obtain ⟨bo, hbo⟩ : ∃ bo, botS s 0 2 = bo := ⟨_, rfl⟩
                      rw [hbo] at j3
                      replace hbo := Lib.hid hbo
                      clear c3 c4 c5 c6
                      replace D := Lib.hid D
                      go_wp2_with fail
                      refine bodyPost_ret (v := .tuple #[.agg #[.int .i64 0, (.slice (some ⟨bf, of_, none⟩) (frmS s 0).length q3), .slice At (tooS s 0).length ct, .bool bo], .bool true, .int .i64 0]) ?_ rfl ?_
                      · simp [results, Try.results16, go_sem, *]
                      · obtain ⟨r1, r2, r3, r4, r5, r6⟩ := hJ.out
                        refine ⟨(.slice (some ⟨bf, of_, none⟩) (frmS s 0).length q3), .slice At (tooS s 0).length ct, by rw [r1, r4, r5, r6, hbo.out], ?_, ?_, below_set4 hw9 (by omega)⟩
                        · rw [r2]; exact Rd.of_own (own_heap hfq.out (fun g hg => .inl (set4_far (by omega))))
                        · rw [r3]; exact Rd.of_own (own_heap htq.out (fun g hg => .inl (set4_far (by omega))))
      · have hfd : (fullD lim 1).1 = lim.bytes := by unfold fullD; rw [if_neg (by rw [hlim]; simp)]; simp
        have hstep : Hid (r = if fullB (s.lv 1) 1 (fullD lim 1).1 then (jobS s 1, true, 0) else nextS s lim 1 2) := by show _ = _; rw [hr.out]; rfl
        have hwr : IntKind.i64.wrap (8 * lim.bytes) = 8 * lim.bytes := IntWalk.i64_in _ (by omega)
        obtain ⟨A0, q0, hf0, hq0, hq1⟩ := ((HF.out 1 (by omega)).below D.below).len
        rw [hf0] at c4
        have hlvr : RdT wr 4 metaC (.slice A0 (s.lv 1).length q0) (s.lv 1) := by rw [← hf0]; exact (HF.out 1 (by omega)).below D.below
        have KSZ : ∀ n, Calls Try.prog 53 #[.slice A0 (s.lv 1).length q0] (wr.drewN n) fun e w' => e = .returned (.int .i64 (sizeL (s.lv 1))) ∧ w' = wr.drewN n := fun n => (size_calls (s.lv 1) _ (wr.drewN n) (Rd.drewN hlvr n) (HFEW.out 1 (by omega)) (fun m hm => by have := tableB_bd (HG.out.good _ _ hm); omega)).mono (fun _ _ h => ⟨h.1, h.2.symm⟩)
        replace KSZ := Lib.hid KSZ
        have hsb := sizeL_bd (s.lv 1) (fun m hm => by have := tableB_bd (HG.out.good _ _ hm); omega)
        have hsl := HFEW.out 1 (by omega)
        replace hwr := Lib.hid hwr
        replace hf0 := Lib.hid hf0
        by_cases hc : sizeL (s.lv 1) ≤ lim.bytes
        case' pos => have hfb : fullB (s.lv 1) 1 (fullD lim 1).1 = false := by rw [hfd]; unfold fullB; rw [if_neg (by omega)]; simp; omega
        case' neg =>
          have hfb : fullB (s.lv 1) 1 (fullD lim 1).1 = true := by rw [hfd]; unfold fullB; rw [if_neg (by omega)]; simp; omega
          have hcd : decide (sizeL (s.lv 1) ≤ lim.bytes) = false := by simp; omega
        case pos =>
          have hr2 : Hid (r = nextS s lim 1 2) := by show _ = _; rw [hstep.out, hfb]; rfl
          replace hfd := Lib.hid hfd
          replace hfb := Lib.hid hfb
          replace D := Lib.hid D
          clear hstep
          have hwr := hwr.out
          go_wp2_with fail
          go_quiet ((go_at_call 53; exact Calls.quiet_of_same (KSZ.out _)))
          go_wp2_with fail
          go_roundw
          case rel => exact ⟨2, 2, by omega, rfl, rfl, hr2, D.out.drewN _⟩
          case measure => simp [intOf]
        case neg =>
          have hrr : r = (jobS s 1, true, 0) := by rw [hstep.out, hfb]; rfl
          have hps : 0 < (s.lv 1).length := full_pos (n := 1) (by omega) hlim hfb
          have hJ : Hid (r.1.level = 1 ∧ r.1.frm = frmS s 1 ∧ r.1.too = tooS s 1 ∧ r.1.bottom = botS s 1 1 ∧ r.2.1 = true ∧ r.2.2 = 0) := by rw [hrr]; exact ⟨rfl, rfl, rfl, rfl, rfl, rfl⟩
          replace hfd := Lib.hid hfd
          replace hfb := Lib.hid hfb
          replace D := Lib.hid D
          clear hstep hrr hr
          have hwr' := hwr.out
          go_wp2_with fail
          go_quiet ((go_at_call 53; exact Calls.quiet_of_same (KSZ.out _)))
          have D2 := D.out.drewN nq
          clear hc hcd hwr' c3 c4 c5 c6 l0 l1 p0 p1 p2 p3 pf0 pf1 pf2 pf3 D
          generalize wr.drewN nq = w2 at *
          have hlv2 : RdT w2 4 metaC (.slice A0 (s.lv 1).length q0) (s.lv 1) := by rw [← hf0.out]; exact (HF.out 1 (by omega)).below D2.below
          have HLV := Lib.hid hlv2
          have HSRC := Lib.hid (fun (W : World) (hW : ∀ b, b < w2.heap.size → W.heap[b]? = w2.heap[b]?) => Rd.src (P := Try.prog) (Rd.over hlv2 hW) (metaC_one' (s.lv 1)) Try.underlying25)
          have hlen0 := HFEW.out 1 (by omega)
          have hH2 := lt_of_at D2.bo
          replace D2 := Lib.hid D2
          clear hlv2
          obtain ⟨b0, o0_, mz, hAz, hbz, hmz, z0, z1_, z2_, z3_⟩ := atMeta HLV.out (Below.refl _ _) hps
          subst hAz
          simp only [Nat.zero_mul, Nat.add_zero] at z0 z1_ z2_ z3_
          have hhd : leastTo (s.lv 1) 1 = mz := by
            have hne : s.lv 1 ≠ [] := by intro h; rw [h] at hps; simp at hps
            rw [leastTo_one hne]
            have := hmz.out
            cases hh : s.lv 1 with
            | nil => rw [hh] at hps; simp at hps
            | cons x l => simp only [hh, List.getElem_cons_zero] at this; simpa [headM] using this
          replace hhd := Lib.hid hhd
          have hpsi : (0 : Int) < ((s.lv 1).length : Int) := by omega
          go_wp2_with (at_builtin; refine wpL_app et_meta (.tmp 62) (.tmp 63) rfl rfl (own0 (base := w2.heap.size) (heap_alloc_new w2 _) (Nat.le_refl _)) rfl rfl (HSRC.out _ (fun b hb => Below.heap_alloc _ _ _ hb)) (by omega) (by simp) ?_; intro v3 w3 hown3 hg3 hat3; have hb3 := grow_below hg3 ((Below.refl w2.heap.size w2).alloc (Nat.le_refl _) _) (Nat.le_refl _) (fun k hk => by simp [Value.ownBlock] at hk; omega); have hown3' : w3.ownsRow w2.heap.size 56 4 v3 (s.lv 1).length ((s.lv 1).flatMap metaC) := own_cast hown3 (by omega) (by simp); obtain ⟨A3, q3, hv3, hq30, hq31, _, _⟩ := Rd.of_own hown3'; subst hv3; have hs3 := hb3.size; have t0 : ∀ o : Obj, (w3.alloc o).cell? ⟨b0, o0_, none⟩ = some (.int .i64 mz.file) := (fun o => (below_at ((hb3.alloc hs3 o)) hbz _).trans z0); have t1 : ∀ o : Obj, (w3.alloc o).cell? ⟨b0, o0_ + 1, none⟩ = some (.int .i64 mz.size) := (fun o => (below_at ((hb3.alloc hs3 o)) hbz _).trans z1_); have t2 : ∀ o : Obj, (w3.alloc o).cell? ⟨b0, o0_ + 2, none⟩ = some (.string mz.first) := (fun o => (below_at ((hb3.alloc hs3 o)) hbz _).trans z2_); have t3 : ∀ o : Obj, (w3.alloc o).cell? ⟨b0, o0_ + 3, none⟩ = some (.string mz.last) := (fun o => (below_at ((hb3.alloc hs3 o)) hbz _).trans z3_); clear z0 z1_ z2_ z3_; clear hown3 hg3 hat3 HSRC)
          replace hwr := Lib.hid hwr
          go_loopw [11] (fun iv wq => ∃ k : Nat, 1 ≤ k ∧ k ≤ (s.lv 1).length ∧ iv = .int .i64 (k : Int) ∧ Hid (wq.heap[w3.heap.size + 1]? = some (.cells (metaA (leastTo (s.lv 1) k)) 56 (0, 0))) ∧ Hid (wq.heap[w3.heap.size]? = some (.cells (jobA 1 (.slice A3 (s.lv 1).length q3) (.slice none 0 0) false) 37 (0, 0))) ∧ Hid (Below w3.heap.size w3 wq))
            (fun iv _ => (s.lv 1).length - (intOf iv).toNat)
          case atStart => exact ⟨1, by omega, by omega, rfl, by show _ = _; rw [hhd.out]; exact new_at (by simp), new_old (new_at rfl), ((Below.refl _ _).alloc (Nat.le_refl _) _).alloc (by simp) _⟩
          case round =>
            clear t0 t1 t2 t3
            obtain ⟨k, hk1, hk, rfl, hL, hJq, hBq⟩ := hrel
            obtain ⟨wq, rfl⟩ : ∃ wq : World, wq = wr := ⟨_, rfl⟩
            have hlt := lt_of_at hL.out
            have hsz := hBq.out.size
            obtain ⟨y, hy⟩ : ∃ y, leastTo (s.lv 1) k = y := ⟨_, rfl⟩
            rw [hy] at hL
            obtain ⟨⟨d0, d1, d2, d3⟩, dfr⟩ := meta_cells hL.out
            have fr0 := dfr 0
            have fr1 := dfr 1
            have fr2 := dfr 2
            have fr3 := dfr 3
            clear dfr
            by_cases hkl : k < (s.lv 1).length
            · have hkl' : (k : Int) < (s.lv 1).length := by omega
              have h0 : (0 : Int) ≤ k := by omega
              obtain ⟨b', off', x, hA, hblt', hx, e0, e1, e2, e3⟩ := atMeta HLV.out (hb3.trans (hBq.out.mono hs3)) hkl
              injection hA with hA
              injection hA with hA1 hA2
              subst hA1 hA2
              have hnx := leastTo_next hkl
              rw [hx.out, hy] at hnx
              replace hnx := Lib.hid hnx
              replace hy := Lib.hid hy
              by_cases hf : x.file < y.file
              · go_wp2_with fail
                go_quiet (fail)
                go_wp2_with fail
                go_roundw
                case rel => exact ⟨k + 1, by omega, by omega, by go_num, by show _ = _; rw [hnx.out, if_pos hf]; exact set4_blk (w := wq.drewN nq) hL.out, by show _ = _; rw [set4_far (by omega)]; exact hJq.out, below_set4 (below_drewN hBq.out _) (by omega)⟩
                case measure => simp [intOf]; omega
              · have hfd' : decide (x.file < y.file) = false := by simp; omega
                go_wp2_with fail
                go_quiet (fail)
                go_wp2_with fail
                go_roundw
                case rel => exact ⟨k + 1, by omega, by omega, by go_num, by show _ = _; rw [hnx.out, if_neg (by omega)]; exact hL.out, hJq, below_drewN hBq.out _⟩
                case measure => simp [intOf]; omega
            · obtain rfl : k = (s.lv 1).length := by omega
              have hfin : frmS s 1 = [y] := by unfold frmS; rw [if_neg (by omega), ← hy]; unfold leastM leastTo; rw [List.take_length]
              replace hfin := Lib.hid hfin
              replace hy := Lib.hid hy
              obtain ⟨⟨j0, j1, j2, j3⟩, jfr⟩ := job_cells hJq.out
              have jf1 := jfr 1
              clear jfr
              have hA1 : ∀ o : Obj, (wq.alloc o).cell? ⟨w3.heap.size, 1, none⟩ = some (.slice A3 (s.lv 1).length q3) := fun o => (job_cells (new_old (x := .cells _ _ _) hJq.out)).1.2.1
              have hA2 : ∀ o : Obj, (wq.alloc o).frozen? ⟨w3.heap.size, 1, none⟩ = false := fun o => (job_cells (new_old (x := .cells _ _ _) hJq.out)).2 1
              go_wp2_with fail
              clear hA1 hA2
              obtain ⟨J, hJe⟩ : ∃ J, w3.heap.size = J := ⟨_, rfl⟩
              rw [hJe] at hJq hL hlt d0 d1 d2 d3 fr0 fr1 fr2 fr3 j0 j1 j2 j3 jf1 ⊢
              obtain ⟨w5, hw5⟩ : ∃ w5, w5 = (wq.alloc (Obj.cells #[.int .i64 y.file, .int .i64 y.size, .string y.first, .string y.last] 56)).setCell ⟨J, 1, none⟩ (.slice (some ⟨wq.heap.size, 0, none⟩) 1 1) := ⟨_, rfl⟩
              rw [← hw5]
              have hl1 : (frmS s 1).length = 1 := by rw [hfin.out]; rfl
              have hJ5 : Hid (w5.heap[J]? = some (.cells (jobA 1 (.slice (some ⟨wq.heap.size, 0, none⟩) (frmS s 1).length 1) (.slice none 0 0) false) 37 (0, 0))) := by
                show _ = _
                rw [hw5, heap_setCell_same _ _ _ _ _ _ (new_old hJq.out), hl1]; simp [jobA]
              have D5 : NR w w5 s f lim := by rw [hw5]; exact ((((D2.out.call hb3).call (hBq.out.mono (by omega))).call ((Below.refl _ _).alloc (Nat.le_refl _) _)).set (by omega) _)
              have hof5 : w5.ownsRow (w.heap.size + 3) 56 4 (.slice (some ⟨wq.heap.size, 0, none⟩) (frmS s 1).length 1) (frmS s 1).length ((frmS s 1).flatMap metaC) := by
                rw [hfin.out, hw5]
                exact ⟨by simp [metaC], .inr ⟨wq.heap.size, 1, metaA y, rfl, by omega, (Below.heap_setCell _ _ _ _ (by show _ ≠ J; omega)).trans (new_at rfl), Nat.le_refl _, by unfold maxLen; omega, rfl, by simp [metaA, metaC]⟩⟩
              have hfJ : Hid ((Value.slice (some ⟨wq.heap.size, 0, none⟩) (frmS s 1).length 1).ownBlock ≠ some J) := fun h => by simp [Value.ownBlock] at h; omega
              have hpf : 0 < (frmS s 1).length := by omega
              have hflen : (frmS s 1).length ≤ 1000000 := by omega
              have hJ3 : w.heap.size + 3 ≤ J := by omega
              replace hl1 := Lib.hid hl1
              clear d0 d1 d2 d3 fr0 fr1 fr2 fr3 j0 j1 j2 j3 jf1 hJq hL hlt hBq hsz hw5
              have HJ5 := hJ5
              have hJlt5 := lt_of_at hJ5.out
              obtain ⟨⟨j0, j1, j2, j3⟩, _⟩ := job_cells hJ5.out
              obtain ⟨bf, of_, m0, hAf, hbf, hm0, e0, e1, e2, e3⟩ := atMeta (Rd.of_own hof5) (Below.refl _ _) hpf
              simp only [Nat.zero_mul, Nat.add_zero] at e0 e1 e2 e3
              injection hAf with hAf; injection hAf with hAf1 hAf2; subst hAf1 hAf2
              try simp only [Nat.zero_add] at e0 e1 e2 e3
              have hhdf : headM (frmS s 1) = m0 := by
                have := hm0.out
                cases hh : frmS s 1 with
                | nil => rw [hh] at hpf; simp at hpf
                | cons x l => simp only [hh, List.getElem_cons_zero] at this; simpa [headM] using this
              replace hhdf := Lib.hid hhdf
              have hpfi : (0 : Int) < ((frmS s 1).length : Int) := by omega
              have hmin := @Lib.run_min_strs Try.prog
              have hmax := @Lib.run_max_strs Try.prog
              replace hof5 := Lib.hid hof5
              replace D5 := Lib.hid D5
              go_wp2_with fail
              go_quiet (fail)
              go_wp2_with fail
              clear j0 j1 j2 j3 e0 e1 e2 e3
              go_loopw [12, 13, 14] (fun av zv iv wq5 => ∃ k : Nat, 1 ≤ k ∧ k ≤ (frmS s 1).length ∧ iv = .int .i64 (k : Int) ∧ av = .string (minF m0.first ((frmS s 1).take k)) ∧ zv = .string (maxF m0.last ((frmS s 1).take k)) ∧ Hid (Below w5.heap.size w5 wq5))
                (fun _ _ iv _ => (frmS s 1).length - (intOf iv).toNat)
              case atStart => exact ⟨1, by omega, by omega, rfl, by rw [take_next hpf, hm0.out]; simp [minF, minS_self], by rw [take_next hpf, hm0.out]; simp [maxF, maxS_self], below_drewN (Below.refl _ _) _⟩
              case round =>
                obtain ⟨k, hk1, hk, rfl, rfl, rfl, hBq5⟩ := hrel
                obtain ⟨wq5, rfl⟩ : ∃ wq5 : World, wq5 = wr := ⟨_, rfl⟩
                have hsz5 := hBq5.out.size
                obtain ⟨⟨j0, j1, j2, j3⟩, jfr⟩ := job_cells ((hBq5.out.block _ hJlt5).trans hJ5.out)
                have jf2 := jfr 2
                clear jfr
                by_cases hkl : k < (frmS s 1).length
                · have hkl' : (k : Int) < (frmS s 1).length := by omega
                  have h0 : (0 : Int) ≤ k := by omega
                  obtain ⟨b', off', x, hA, hblt', hx, e0, e1, e2, e3⟩ := atMeta (Rd.of_own hof5.out) hBq5.out hkl
                  injection hA with hA
                  injection hA with hA1 hA2
                  subst hA1 hA2
                  try simp only [Nat.zero_add] at e0 e1 e2 e3
                  have n1 := minF_next (a := m0.first) hkl
                  have n2 := maxF_next (a := m0.last) hkl
                  rw [hx.out] at n1 n2
                  replace n1 := Lib.hid n1
                  replace n2 := Lib.hid n2
                  generalize minF m0.first ((frmS s 1).take k) = av at *
                  generalize maxF m0.last ((frmS s 1).take k) = zv at *
                  go_wp2_with fail
                  try (go_quiet (fail); go_wp2_with fail)
                  go_roundw
                  case rel => first | exact ⟨k + 1, by omega, by omega, by go_num, by rw [n1.out], by rw [n2.out], hBq5⟩ | exact ⟨k + 1, by omega, by omega, by go_num, by rw [n1.out], by rw [n2.out], below_drewN hBq5.out _⟩
                  case measure => simp [intOf]; omega
                · obtain rfl : k = (frmS s 1).length := by omega
                  rw [List.take_length]
                  have ea : minF m0.first (frmS s 1) = spanA (frmS s 1) := by unfold spanA; rw [hhdf.out]
                  have ez : maxF m0.last (frmS s 1) = spanZ (frmS s 1) := by unfold spanZ; rw [hhdf.out]
                  rw [ea, ez]
                  clear ea ez
                  obtain ⟨a1, ha1⟩ : ∃ a1, spanA (frmS s 1) = a1 := ⟨_, rfl⟩
                  obtain ⟨z1, hz1⟩ : ∃ z1, spanZ (frmS s 1) = z1 := ⟨_, rfl⟩
                  rw [ha1, hz1]
                  have htoo : tooS s 1 = touchL (s.lv 2) a1 z1 := by unfold tooS; rw [ha1, hz1]
                  have D6 := D5.out.call hBq5.out
                  have KT := Lib.hid (touchR_calls (s.lv 2) a1 z1 (f 2) wq5 ((HF.out 2 (by omega)).below D6.below) (HFEW.out 2 (by omega)))
                  rw [← htoo] at KT
                  replace ha1 := Lib.hid ha1
                  replace hz1 := Lib.hid hz1
                  have hlt0 : (tooS s 1).length ≤ 1000000 := by
                    have h1 := HFEW.out 2 (by omega)
                    rw [htoo]; exact Nat.le_trans (List.length_filter_le _ _) h1
                  replace htoo := Lib.hid htoo
                  obtain ⟨c3, c4, c5, c6⟩ := stA_cells D6.bs
                  go_wp2_with fail
                  refine KT.out.mono ?_
                  rintro e w6 ⟨vt, rfl, hownt, hb6⟩
                  clear KT c3 c4 c5 c6 j0 j1 j2 j3 jf2
                  have hs6 := hb6.size
                  have hBw6 : Below w5.heap.size w5 w6 := hBq5.out.trans (hb6.mono hsz5)
                  have D7 := D5.out.call hBw6
                  have hof7 := own_below hof5.out hBw6 (Nat.le_refl _)
                  have hJ7 := (hBw6.block _ hJlt5).trans hJ5.out
                  obtain ⟨⟨j0, j1, j2, j3⟩, jfr⟩ := job_cells hJ7
                  have jf2 := jfr 2
                  clear jfr
                  obtain ⟨At, ct, hvt, hct0, hct1, _, _⟩ := Rd.of_own hownt
                  subst hvt
                  have htJ : Hid ((Value.slice At (tooS s 1).length ct).ownBlock ≠ some J) := fun h => by have := (hownt.lt J h).1; omega
                  have hot7 := own_below hownt (Below.refl _ _) (show w.heap.size + 3 ≤ _ from by omega)
                  -- what stays, whatever is stored into the job
                  have hset : ∀ (W : World) (o : Nat) (u : Value), NR w W s f lim → W.ownsRow (w.heap.size + 3) 56 4 (.slice (some ⟨wq.heap.size, 0, none⟩) (frmS s 1).length 1) (frmS s 1).length ((frmS s 1).flatMap metaC) → W.ownsRow (w.heap.size + 3) 56 4 (.slice At (tooS s 1).length ct) (tooS s 1).length ((tooS s 1).flatMap metaC) →
                      Hid (NR w (W.setCell ⟨J, o, none⟩ u) s f lim) ∧ Hid ((W.setCell ⟨J, o, none⟩ u).ownsRow (w.heap.size + 3) 56 4 (.slice (some ⟨wq.heap.size, 0, none⟩) (frmS s 1).length 1) (frmS s 1).length ((frmS s 1).flatMap metaC)) ∧ Hid ((W.setCell ⟨J, o, none⟩ u).ownsRow (w.heap.size + 3) 56 4 (.slice At (tooS s 1).length ct) (tooS s 1).length ((tooS s 1).flatMap metaC)) := fun W o u hD h1 h2 => by
                    have hne : ∀ g, g ≠ J → (W.setCell ⟨J, o, none⟩ u).heap[g]? = W.heap[g]? := fun g hg => Below.heap_setCell W _ u g hg
                    refine ⟨hD.set hJ3 u, own_heap h1 (fun g _ => ?_), own_heap h2 (fun g _ => ?_)⟩
                    · by_cases hg : g = J
                      · subst hg; exact .inr hfJ.out
                      · exact .inl (hne g hg)
                    · by_cases hg : g = J
                      · subst hg; exact .inr htJ.out
                      · exact .inl (hne g hg)
                  replace hset := Lib.hid hset
                  have hJ8 : Hid ((w6.setCell ⟨J, 2, none⟩ (.slice At (tooS s 1).length ct)).heap[J]? = some (.cells (jobA 1 (.slice (some ⟨wq.heap.size, 0, none⟩) (frmS s 1).length 1) (.slice At (tooS s 1).length ct) false) 37 (0, 0))) := by
                    show _ = _; rw [heap_setCell_same _ _ _ _ _ _ hJ7]; simp [jobA]
                  have hset8 := hset.out w6 2 (.slice At (tooS s 1).length ct) D7 hof7 hot7
                  replace hJ7 := Lib.hid hJ7
                  replace D7 := Lib.hid D7
                  replace hof7 := Lib.hid hof7
                  replace hot7 := Lib.hid hot7
                  clear hownt hBw6 hb6 hs6 D6
                  go_wp2_with fail
                  clear j0 j1 j2 j3 jf2
                  go_loopw [12, 13, 15] (fun av zv iv wq8 => ∃ k : Nat, k ≤ (tooS s 1).length ∧ iv = .int .i64 (k : Int) ∧ av = .string (minF a1 ((tooS s 1).take k)) ∧ zv = .string (maxF z1 ((tooS s 1).take k)) ∧ Hid (wq8.heap[J]? = some (.cells (jobA 1 (.slice (some ⟨wq.heap.size, 0, none⟩) (frmS s 1).length 1) (.slice At (tooS s 1).length ct) false) 37 (0, 0))) ∧ Hid (NR w wq8 s f lim) ∧ Hid (wq8.ownsRow (w.heap.size + 3) 56 4 (.slice (some ⟨wq.heap.size, 0, none⟩) (frmS s 1).length 1) (frmS s 1).length ((frmS s 1).flatMap metaC)) ∧ Hid (wq8.ownsRow (w.heap.size + 3) 56 4 (.slice At (tooS s 1).length ct) (tooS s 1).length ((tooS s 1).flatMap metaC)))
                    (fun _ _ iv _ => (tooS s 1).length - (intOf iv).toNat)
                  case atStart => exact ⟨0, by omega, rfl, rfl, rfl, hJ8, hset8⟩
                  case round =>
                    clear hk1 hk hkl hJ8 hset8 hJ7 D7 hof7 hot7 hBq5 hsz5
                    obtain ⟨k, hk, rfl, rfl, rfl, hJq, hDq, hfq, htq⟩ := hrel
                    obtain ⟨wq8, rfl⟩ : ∃ wq8 : World, wq8 = wr := ⟨_, rfl⟩
                    obtain ⟨⟨j0, j1, j2, j3⟩, jfr⟩ := job_cells hJq.out
                    have jf3 := jfr 3
                    clear jfr
                    by_cases hkl : k < (tooS s 1).length
                    · have hkl' : (k : Int) < (tooS s 1).length := by omega
                      have h0 : (0 : Int) ≤ k := by omega
                      obtain ⟨b', off', x, hA, hblt', hx, e0, e1, e2, e3⟩ := atMeta (Rd.of_own htq.out) (Below.refl _ _) hkl
                      subst hA
                      have n1 := minF_next (a := a1) hkl
                      have n2 := maxF_next (a := z1) hkl
                      rw [hx.out] at n1 n2
                      replace n1 := Lib.hid n1
                      replace n2 := Lib.hid n2
                      generalize minF a1 ((tooS s 1).take k) = av at *
                      generalize maxF z1 ((tooS s 1).take k) = zv at *
                      go_wp2_with fail
                      try (go_quiet (fail); go_wp2_with fail)
                      go_roundw
                      case rel => first | exact ⟨k + 1, by omega, by go_num, by rw [n1.out], by rw [n2.out], hJq, hDq, hfq, htq⟩ | exact ⟨k + 1, by omega, by go_num, by rw [n1.out], by rw [n2.out], hJq, hDq.out.drewN _, hfq, htq⟩
                      case measure => simp [intOf]; omega
                    · obtain rfl : k = (tooS s 1).length := by omega
                      rw [List.take_length]
                      have hne : frmS s 1 ≠ [] := by intro h; rw [h] at hpf; simp at hpf
                      have ea : minF a1 (tooS s 1) = spanA (frmS s 1 ++ tooS s 1) := by unfold spanA; rw [headM_append _ _ hne, minF_append, ← ha1.out]; rfl
                      have ez : maxF z1 (tooS s 1) = spanZ (frmS s 1 ++ tooS s 1) := by unfold spanZ; rw [headM_append _ _ hne, maxF_append, ← hz1.out]; rfl
                      rw [ea, ez]
                      clear ea ez hne
                      obtain ⟨a2, ha2⟩ : ∃ a2, spanA (frmS s 1 ++ tooS s 1) = a2 := ⟨_, rfl⟩
                      obtain ⟨z2, hz2⟩ : ∃ z2, spanZ (frmS s 1 ++ tooS s 1) = z2 := ⟨_, rfl⟩
                      rw [ha2, hz2]
                      have HDB : Hid (∀ k, deepB s 1 k = ((touchL (s.lv k) a2 z2).length == 0)) := fun k => by unfold deepB; rw [ha2, hz2]
                      replace ha2 := Lib.hid ha2
                      replace hz2 := Lib.hid hz2
                      have hJ9 : Hid ((wq8.setCell ⟨J, 3, none⟩ (.bool true)).heap[J]? = some (.cells (jobA 1 (.slice (some ⟨wq.heap.size, 0, none⟩) (frmS s 1).length 1) (.slice At (tooS s 1).length ct) (botS s 1 0)) 37 (0, 0))) := job_set true hJq.out
                      have hset9 := hset.out wq8 3 (.bool true) hDq.out hfq.out htq.out
                      go_wp2_with fail
                      clear j0 j1 j2 j3 jf3
                      go_loopw [16] (fun iv wq9 => ∃ (k : Nat) (z : Int), k ≤ 1 ∧ z = 3 + k ∧ iv = .int .i64 z ∧ Hid (wq9.heap[J]? = some (.cells (jobA 1 (.slice (some ⟨wq.heap.size, 0, none⟩) (frmS s 1).length 1) (.slice At (tooS s 1).length ct) (botS s 1 k)) 37 (0, 0))) ∧ Hid (NR w wq9 s f lim) ∧ Hid (wq9.ownsRow (w.heap.size + 3) 56 4 (.slice (some ⟨wq.heap.size, 0, none⟩) (frmS s 1).length 1) (frmS s 1).length ((frmS s 1).flatMap metaC)) ∧ Hid (wq9.ownsRow (w.heap.size + 3) 56 4 (.slice At (tooS s 1).length ct) (tooS s 1).length ((tooS s 1).flatMap metaC)))
                        (fun iv _ => 4 - (intOf iv).toNat)
                      case atStart => exact ⟨0, 3, by omega, rfl, rfl, hJ9, hset9⟩
                      case round =>
                        clear hJ9 hset9 hJq hDq hfq htq hk hkl
                        obtain ⟨k, z, hk, hzk, rfl, hJq, hDq, hfq, htq⟩ := hrel
                        obtain ⟨wq9, rfl⟩ : ∃ wq9 : World, wq9 = wr := ⟨_, rfl⟩
                        obtain ⟨⟨j0, j1, j2, j3⟩, jfr⟩ := job_cells hJq.out
                        have jf3 := jfr 3
                        clear jfr
                        obtain ⟨c3, c4, c5, c6⟩ := stA_cells hDq.out.bs
                        have hJlt9 := lt_of_at hJq.out
                        by_cases hkK : k < 1
                        · obtain rfl : k = 0 := by omega
                          obtain rfl : z = 3 := by omega
                          clear hzk hkK hk
                          have hbs : botS s 1 1 = (botS s 1 0 && deepB s 1 3) := rfl
                          have hdb := HDB.out 3
                          obtain ⟨bo, hbo⟩ : ∃ bo, botS s 1 0 = bo := ⟨_, rfl⟩
                          rw [hbo] at j3 hbs hJq
                          replace hbo := Lib.hid hbo
                          cases bo
                          · have hb2 : Hid (botS s 1 1 = false) := by show _ = _; rw [hbs]; rfl
                            have hh := hset.out wq9 3 (.bool false) hDq.out hfq.out htq.out
                            have hj := job_set false hJq.out
                            replace hj := Lib.hid hj
                            clear hbs hdb
                            go_wp2_with fail
                            go_roundw
                            case rel => exact ⟨1, 4, by omega, rfl, rfl, by rw [hb2.out]; exact hj, hh⟩
                            case measure => simp [intOf]
                          · have KT2 := Lib.hid (touchR_calls (s.lv 3) a2 z2 (f 3) wq9 ((HF.out 3 (by omega)).below hDq.out.below) (HFEW.out 3 (by omega)))
                            obtain ⟨tl, htl⟩ : ∃ tl, touchL (s.lv 3) a2 z2 = tl := ⟨_, rfl⟩
                            rw [htl] at KT2 hdb
                            rw [hdb] at hbs
                            clear htl
                            go_wp2_with fail
                            refine KT2.out.mono ?_
                            rintro e w8 ⟨v8, rfl, hown8, hb8⟩
                            clear KT2 c3 c4 c5 c6 j0 j1 j2 j3 jf3
                            obtain ⟨A8, c8, hv8, _, _, _, _⟩ := Rd.of_own hown8
                            subst hv8
                            have hJ8 := (hb8.block _ hJlt9).trans hJq.out
                            obtain ⟨⟨j0, j1, j2, j3⟩, jfr⟩ := job_cells hJ8
                            have jf3 := jfr 3
                            clear jfr
                            have D8 := hDq.out.call hb8
                            have hof8 := own_below hfq.out hb8 (Nat.le_refl _)
                            have hot8 := own_below htq.out hb8 (Nat.le_refl _)
                            obtain ⟨bl, hbl⟩ : ∃ bl, ((tl.length : Int) == 0) = bl := ⟨_, rfl⟩
                            have hh := hset.out w8 3 (.bool bl) D8 hof8 hot8
                            have hj := job_set bl hJ8
                            replace hj := Lib.hid hj
                            have hb2 : Hid (botS s 1 1 = bl) := by
                              show _ = _
                              rw [hbs, ← hbl]
                              rw [Bool.eq_iff_iff]; simp
                            clear hbs hdb hown8 D8 hof8 hot8
                            replace hJ8 := Lib.hid hJ8
                            replace hb8 := Lib.hid hb8
                            go_wp2_with fail
                            go_roundw
                            case rel => exact ⟨1, 4, by omega, rfl, rfl, by rw [hb2.out]; exact hj, hh⟩
                            case measure => simp [intOf]
                        · obtain rfl : k = 1 := by omega
                          obtain rfl : z = 4 := by omega
                          clear hzk hkK hk
                          have D := hDq.out
                          obtain ⟨⟨p0, p1, p2, p3⟩, pfr⟩ := job_cells D.bo
                          have pf0 := pfr 0
                          have pf1 := pfr 1
                          have pf2 := pfr 2
                          have pf3 := pfr 3
                          clear pfr
                          have hw9 := D.below
                          obtain ⟨bo, hbo⟩ : ∃ bo, botS s 1 1 = bo := ⟨_, rfl⟩
                          rw [hbo] at j3
                          replace hbo := Lib.hid hbo
                          clear c3 c4 c5 c6
                          replace D := Lib.hid D
                          go_wp2_with fail
                          refine bodyPost_ret (v := .tuple #[.agg #[.int .i64 1, (.slice (some ⟨wq.heap.size, 0, none⟩) (frmS s 1).length 1), .slice At (tooS s 1).length ct, .bool bo], .bool true, .int .i64 0]) ?_ rfl ?_
                          · simp [results, Try.results16, go_sem, *]
                          · obtain ⟨r1, r2, r3, r4, r5, r6⟩ := hJ.out
                            refine ⟨(.slice (some ⟨wq.heap.size, 0, none⟩) (frmS s 1).length 1), .slice At (tooS s 1).length ct, by rw [r1, r4, r5, r6, hbo.out], ?_, ?_, below_set4 hw9 (by omega)⟩
                            · rw [r2]; exact Rd.of_own (own_heap hfq.out (fun g hg => .inl (set4_far (by omega))))
                            · rw [r3]; exact Rd.of_own (own_heap htq.out (fun g hg => .inl (set4_far (by omega))))
      · have hfd : (fullD lim 2).1 = 8 * lim.bytes := by unfold fullD; rw [if_neg (by rw [hlim]; simp)]; simp
        have hstep : Hid (r = if fullB (s.lv 2) 2 (fullD lim 2).1 then (jobS s 2, true, 0) else nextS s lim 0 3) := by show _ = _; rw [hr.out]; rfl
        have hwr : IntKind.i64.wrap (8 * lim.bytes) = 8 * lim.bytes := IntWalk.i64_in _ (by omega)
        obtain ⟨A0, q0, hf0, hq0, hq1⟩ := ((HF.out 2 (by omega)).below D.below).len
        rw [hf0] at c5
        have hlvr : RdT wr 4 metaC (.slice A0 (s.lv 2).length q0) (s.lv 2) := by rw [← hf0]; exact (HF.out 2 (by omega)).below D.below
        have KSZ : ∀ n, Calls Try.prog 53 #[.slice A0 (s.lv 2).length q0] (wr.drewN n) fun e w' => e = .returned (.int .i64 (sizeL (s.lv 2))) ∧ w' = wr.drewN n := fun n => (size_calls (s.lv 2) _ (wr.drewN n) (Rd.drewN hlvr n) (HFEW.out 2 (by omega)) (fun m hm => by have := tableB_bd (HG.out.good _ _ hm); omega)).mono (fun _ _ h => ⟨h.1, h.2.symm⟩)
        replace KSZ := Lib.hid KSZ
        have hsb := sizeL_bd (s.lv 2) (fun m hm => by have := tableB_bd (HG.out.good _ _ hm); omega)
        have hsl := HFEW.out 2 (by omega)
        replace hwr := Lib.hid hwr
        replace hf0 := Lib.hid hf0
        by_cases hc : sizeL (s.lv 2) ≤ (8 * lim.bytes)
        case' pos => have hfb : fullB (s.lv 2) 2 (fullD lim 2).1 = false := by rw [hfd]; unfold fullB; rw [if_neg (by omega)]; simp; omega
        case' neg =>
          have hfb : fullB (s.lv 2) 2 (fullD lim 2).1 = true := by rw [hfd]; unfold fullB; rw [if_neg (by omega)]; simp; omega
          have hcd : decide (sizeL (s.lv 2) ≤ (8 * lim.bytes)) = false := by simp; omega
        case pos =>
          have hr2 : Hid (r = nextS s lim 0 3) := by show _ = _; rw [hstep.out, hfb]; rfl
          replace hfd := Lib.hid hfd
          replace hfb := Lib.hid hfb
          replace D := Lib.hid D
          clear hstep
          have hwr := hwr.out
          go_wp2_with fail
          go_quiet ((go_at_call 53; exact Calls.quiet_of_same (KSZ.out _)))
          go_wp2_with fail
          go_roundw
          case rel => exact ⟨3, 3, by omega, rfl, rfl, hr2, D.out.drewN _⟩
          case measure => simp [intOf]
        case neg =>
          have hrr : r = (jobS s 2, true, 0) := by rw [hstep.out, hfb]; rfl
          have hps : 0 < (s.lv 2).length := full_pos (n := 2) (by omega) hlim hfb
          have hJ : Hid (r.1.level = 2 ∧ r.1.frm = frmS s 2 ∧ r.1.too = tooS s 2 ∧ r.1.bottom = botS s 2 0 ∧ r.2.1 = true ∧ r.2.2 = 0) := by rw [hrr]; exact ⟨rfl, rfl, rfl, rfl, rfl, rfl⟩
          replace hfd := Lib.hid hfd
          replace hfb := Lib.hid hfb
          replace D := Lib.hid D
          clear hstep hrr hr
          have hwr' := hwr.out
          go_wp2_with fail
          go_quiet ((go_at_call 53; exact Calls.quiet_of_same (KSZ.out _)))
          have D2 := D.out.drewN nq
          clear hc hcd hwr' c3 c4 c5 c6 l0 l1 p0 p1 p2 p3 pf0 pf1 pf2 pf3 D
          generalize wr.drewN nq = w2 at *
          have hlv2 : RdT w2 4 metaC (.slice A0 (s.lv 2).length q0) (s.lv 2) := by rw [← hf0.out]; exact (HF.out 2 (by omega)).below D2.below
          have HLV := Lib.hid hlv2
          have HSRC := Lib.hid (fun (W : World) (hW : ∀ b, b < w2.heap.size → W.heap[b]? = w2.heap[b]?) => Rd.src (P := Try.prog) (Rd.over hlv2 hW) (metaC_one' (s.lv 2)) Try.underlying25)
          have hlen0 := HFEW.out 2 (by omega)
          have hH2 := lt_of_at D2.bo
          replace D2 := Lib.hid D2
          clear hlv2
          obtain ⟨b0, o0_, mz, hAz, hbz, hmz, z0, z1_, z2_, z3_⟩ := atMeta HLV.out (Below.refl _ _) hps
          subst hAz
          simp only [Nat.zero_mul, Nat.add_zero] at z0 z1_ z2_ z3_
          have hhd : leastTo (s.lv 2) 1 = mz := by
            have hne : s.lv 2 ≠ [] := by intro h; rw [h] at hps; simp at hps
            rw [leastTo_one hne]
            have := hmz.out
            cases hh : s.lv 2 with
            | nil => rw [hh] at hps; simp at hps
            | cons x l => simp only [hh, List.getElem_cons_zero] at this; simpa [headM] using this
          replace hhd := Lib.hid hhd
          have hpsi : (0 : Int) < ((s.lv 2).length : Int) := by omega
          go_wp2_with (at_builtin; refine wpL_app et_meta (.tmp 62) (.tmp 63) rfl rfl (own0 (base := w2.heap.size) (heap_alloc_new w2 _) (Nat.le_refl _)) rfl rfl (HSRC.out _ (fun b hb => Below.heap_alloc _ _ _ hb)) (by omega) (by simp) ?_; intro v3 w3 hown3 hg3 hat3; have hb3 := grow_below hg3 ((Below.refl w2.heap.size w2).alloc (Nat.le_refl _) _) (Nat.le_refl _) (fun k hk => by simp [Value.ownBlock] at hk; omega); have hown3' : w3.ownsRow w2.heap.size 56 4 v3 (s.lv 2).length ((s.lv 2).flatMap metaC) := own_cast hown3 (by omega) (by simp); obtain ⟨A3, q3, hv3, hq30, hq31, _, _⟩ := Rd.of_own hown3'; subst hv3; have hs3 := hb3.size; have t0 : ∀ o : Obj, (w3.alloc o).cell? ⟨b0, o0_, none⟩ = some (.int .i64 mz.file) := (fun o => (below_at ((hb3.alloc hs3 o)) hbz _).trans z0); have t1 : ∀ o : Obj, (w3.alloc o).cell? ⟨b0, o0_ + 1, none⟩ = some (.int .i64 mz.size) := (fun o => (below_at ((hb3.alloc hs3 o)) hbz _).trans z1_); have t2 : ∀ o : Obj, (w3.alloc o).cell? ⟨b0, o0_ + 2, none⟩ = some (.string mz.first) := (fun o => (below_at ((hb3.alloc hs3 o)) hbz _).trans z2_); have t3 : ∀ o : Obj, (w3.alloc o).cell? ⟨b0, o0_ + 3, none⟩ = some (.string mz.last) := (fun o => (below_at ((hb3.alloc hs3 o)) hbz _).trans z3_); clear z0 z1_ z2_ z3_; clear hown3 hg3 hat3 HSRC)
          replace hwr := Lib.hid hwr
          go_loopw [11] (fun iv wq => ∃ k : Nat, 1 ≤ k ∧ k ≤ (s.lv 2).length ∧ iv = .int .i64 (k : Int) ∧ Hid (wq.heap[w3.heap.size + 1]? = some (.cells (metaA (leastTo (s.lv 2) k)) 56 (0, 0))) ∧ Hid (wq.heap[w3.heap.size]? = some (.cells (jobA 2 (.slice A3 (s.lv 2).length q3) (.slice none 0 0) false) 37 (0, 0))) ∧ Hid (Below w3.heap.size w3 wq))
            (fun iv _ => (s.lv 2).length - (intOf iv).toNat)
          case atStart => exact ⟨1, by omega, by omega, rfl, by show _ = _; rw [hhd.out]; exact new_at (by simp), new_old (new_at rfl), ((Below.refl _ _).alloc (Nat.le_refl _) _).alloc (by simp) _⟩
          case round =>
            clear t0 t1 t2 t3
            obtain ⟨k, hk1, hk, rfl, hL, hJq, hBq⟩ := hrel
            obtain ⟨wq, rfl⟩ : ∃ wq : World, wq = wr := ⟨_, rfl⟩
            have hlt := lt_of_at hL.out
            have hsz := hBq.out.size
            obtain ⟨y, hy⟩ : ∃ y, leastTo (s.lv 2) k = y := ⟨_, rfl⟩
            rw [hy] at hL
            obtain ⟨⟨d0, d1, d2, d3⟩, dfr⟩ := meta_cells hL.out
            have fr0 := dfr 0
            have fr1 := dfr 1
            have fr2 := dfr 2
            have fr3 := dfr 3
            clear dfr
            by_cases hkl : k < (s.lv 2).length
            · have hkl' : (k : Int) < (s.lv 2).length := by omega
              have h0 : (0 : Int) ≤ k := by omega
              obtain ⟨b', off', x, hA, hblt', hx, e0, e1, e2, e3⟩ := atMeta HLV.out (hb3.trans (hBq.out.mono hs3)) hkl
              injection hA with hA
              injection hA with hA1 hA2
              subst hA1 hA2
              have hnx := leastTo_next hkl
              rw [hx.out, hy] at hnx
              replace hnx := Lib.hid hnx
              replace hy := Lib.hid hy
              by_cases hf : x.file < y.file
              · go_wp2_with fail
                go_quiet (fail)
                go_wp2_with fail
                go_roundw
                case rel => exact ⟨k + 1, by omega, by omega, by go_num, by show _ = _; rw [hnx.out, if_pos hf]; exact set4_blk (w := wq.drewN nq) hL.out, by show _ = _; rw [set4_far (by omega)]; exact hJq.out, below_set4 (below_drewN hBq.out _) (by omega)⟩
                case measure => simp [intOf]; omega
              · have hfd' : decide (x.file < y.file) = false := by simp; omega
                go_wp2_with fail
                go_quiet (fail)
                go_wp2_with fail
                go_roundw
                case rel => exact ⟨k + 1, by omega, by omega, by go_num, by show _ = _; rw [hnx.out, if_neg (by omega)]; exact hL.out, hJq, below_drewN hBq.out _⟩
                case measure => simp [intOf]; omega
            · obtain rfl : k = (s.lv 2).length := by omega
              have hfin : frmS s 2 = [y] := by unfold frmS; rw [if_neg (by omega), ← hy]; unfold leastM leastTo; rw [List.take_length]
              replace hfin := Lib.hid hfin
              replace hy := Lib.hid hy
              obtain ⟨⟨j0, j1, j2, j3⟩, jfr⟩ := job_cells hJq.out
              have jf1 := jfr 1
              clear jfr
              have hA1 : ∀ o : Obj, (wq.alloc o).cell? ⟨w3.heap.size, 1, none⟩ = some (.slice A3 (s.lv 2).length q3) := fun o => (job_cells (new_old (x := .cells _ _ _) hJq.out)).1.2.1
              have hA2 : ∀ o : Obj, (wq.alloc o).frozen? ⟨w3.heap.size, 1, none⟩ = false := fun o => (job_cells (new_old (x := .cells _ _ _) hJq.out)).2 1
              go_wp2_with fail
              clear hA1 hA2
              obtain ⟨J, hJe⟩ : ∃ J, w3.heap.size = J := ⟨_, rfl⟩
              rw [hJe] at hJq hL hlt d0 d1 d2 d3 fr0 fr1 fr2 fr3 j0 j1 j2 j3 jf1 ⊢
              obtain ⟨w5, hw5⟩ : ∃ w5, w5 = (wq.alloc (Obj.cells #[.int .i64 y.file, .int .i64 y.size, .string y.first, .string y.last] 56)).setCell ⟨J, 1, none⟩ (.slice (some ⟨wq.heap.size, 0, none⟩) 1 1) := ⟨_, rfl⟩
              rw [← hw5]
              have hl1 : (frmS s 2).length = 1 := by rw [hfin.out]; rfl
              have hJ5 : Hid (w5.heap[J]? = some (.cells (jobA 2 (.slice (some ⟨wq.heap.size, 0, none⟩) (frmS s 2).length 1) (.slice none 0 0) false) 37 (0, 0))) := by
                show _ = _
                rw [hw5, heap_setCell_same _ _ _ _ _ _ (new_old hJq.out), hl1]; simp [jobA]
              have D5 : NR w w5 s f lim := by rw [hw5]; exact ((((D2.out.call hb3).call (hBq.out.mono (by omega))).call ((Below.refl _ _).alloc (Nat.le_refl _) _)).set (by omega) _)
              have hof5 : w5.ownsRow (w.heap.size + 3) 56 4 (.slice (some ⟨wq.heap.size, 0, none⟩) (frmS s 2).length 1) (frmS s 2).length ((frmS s 2).flatMap metaC) := by
                rw [hfin.out, hw5]
                exact ⟨by simp [metaC], .inr ⟨wq.heap.size, 1, metaA y, rfl, by omega, (Below.heap_setCell _ _ _ _ (by show _ ≠ J; omega)).trans (new_at rfl), Nat.le_refl _, by unfold maxLen; omega, rfl, by simp [metaA, metaC]⟩⟩
              have hfJ : Hid ((Value.slice (some ⟨wq.heap.size, 0, none⟩) (frmS s 2).length 1).ownBlock ≠ some J) := fun h => by simp [Value.ownBlock] at h; omega
              have hpf : 0 < (frmS s 2).length := by omega
              have hflen : (frmS s 2).length ≤ 1000000 := by omega
              have hJ3 : w.heap.size + 3 ≤ J := by omega
              replace hl1 := Lib.hid hl1
              clear d0 d1 d2 d3 fr0 fr1 fr2 fr3 j0 j1 j2 j3 jf1 hJq hL hlt hBq hsz hw5
              have HJ5 := hJ5
              have hJlt5 := lt_of_at hJ5.out
              obtain ⟨⟨j0, j1, j2, j3⟩, _⟩ := job_cells hJ5.out
              obtain ⟨bf, of_, m0, hAf, hbf, hm0, e0, e1, e2, e3⟩ := atMeta (Rd.of_own hof5) (Below.refl _ _) hpf
              simp only [Nat.zero_mul, Nat.add_zero] at e0 e1 e2 e3
              injection hAf with hAf; injection hAf with hAf1 hAf2; subst hAf1 hAf2
              try simp only [Nat.zero_add] at e0 e1 e2 e3
              have hhdf : headM (frmS s 2) = m0 := by
                have := hm0.out
                cases hh : frmS s 2 with
                | nil => rw [hh] at hpf; simp at hpf
                | cons x l => simp only [hh, List.getElem_cons_zero] at this; simpa [headM] using this
              replace hhdf := Lib.hid hhdf
              have hpfi : (0 : Int) < ((frmS s 2).length : Int) := by omega
              have hmin := @Lib.run_min_strs Try.prog
              have hmax := @Lib.run_max_strs Try.prog
              replace hof5 := Lib.hid hof5
              replace D5 := Lib.hid D5
              go_wp2_with fail
              go_quiet (fail)
              go_wp2_with fail
              clear j0 j1 j2 j3 e0 e1 e2 e3
              go_loopw [12, 13, 14] (fun av zv iv wq5 => ∃ k : Nat, 1 ≤ k ∧ k ≤ (frmS s 2).length ∧ iv = .int .i64 (k : Int) ∧ av = .string (minF m0.first ((frmS s 2).take k)) ∧ zv = .string (maxF m0.last ((frmS s 2).take k)) ∧ Hid (Below w5.heap.size w5 wq5))
                (fun _ _ iv _ => (frmS s 2).length - (intOf iv).toNat)
              case atStart => exact ⟨1, by omega, by omega, rfl, by rw [take_next hpf, hm0.out]; simp [minF, minS_self], by rw [take_next hpf, hm0.out]; simp [maxF, maxS_self], below_drewN (Below.refl _ _) _⟩
              case round =>
                obtain ⟨k, hk1, hk, rfl, rfl, rfl, hBq5⟩ := hrel
                obtain ⟨wq5, rfl⟩ : ∃ wq5 : World, wq5 = wr := ⟨_, rfl⟩
                have hsz5 := hBq5.out.size
                obtain ⟨⟨j0, j1, j2, j3⟩, jfr⟩ := job_cells ((hBq5.out.block _ hJlt5).trans hJ5.out)
                have jf2 := jfr 2
                clear jfr
                by_cases hkl : k < (frmS s 2).length
                · have hkl' : (k : Int) < (frmS s 2).length := by omega
                  have h0 : (0 : Int) ≤ k := by omega
                  obtain ⟨b', off', x, hA, hblt', hx, e0, e1, e2, e3⟩ := atMeta (Rd.of_own hof5.out) hBq5.out hkl
                  injection hA with hA
                  injection hA with hA1 hA2
                  subst hA1 hA2
                  try simp only [Nat.zero_add] at e0 e1 e2 e3
                  have n1 := minF_next (a := m0.first) hkl
                  have n2 := maxF_next (a := m0.last) hkl
                  rw [hx.out] at n1 n2
                  replace n1 := Lib.hid n1
                  replace n2 := Lib.hid n2
                  generalize minF m0.first ((frmS s 2).take k) = av at *
                  generalize maxF m0.last ((frmS s 2).take k) = zv at *
                  go_wp2_with fail
                  try (go_quiet (fail); go_wp2_with fail)
                  go_roundw
                  case rel => first | exact ⟨k + 1, by omega, by omega, by go_num, by rw [n1.out], by rw [n2.out], hBq5⟩ | exact ⟨k + 1, by omega, by omega, by go_num, by rw [n1.out], by rw [n2.out], below_drewN hBq5.out _⟩
                  case measure => simp [intOf]; omega
                · obtain rfl : k = (frmS s 2).length := by omega
                  rw [List.take_length]
                  have ea : minF m0.first (frmS s 2) = spanA (frmS s 2) := by unfold spanA; rw [hhdf.out]
                  have ez : maxF m0.last (frmS s 2) = spanZ (frmS s 2) := by unfold spanZ; rw [hhdf.out]
                  rw [ea, ez]
                  clear ea ez
                  obtain ⟨a1, ha1⟩ : ∃ a1, spanA (frmS s 2) = a1 := ⟨_, rfl⟩
                  obtain ⟨z1, hz1⟩ : ∃ z1, spanZ (frmS s 2) = z1 := ⟨_, rfl⟩
                  rw [ha1, hz1]
                  have htoo : tooS s 2 = touchL (s.lv 3) a1 z1 := by unfold tooS; rw [ha1, hz1]
                  have D6 := D5.out.call hBq5.out
                  have KT := Lib.hid (touchR_calls (s.lv 3) a1 z1 (f 3) wq5 ((HF.out 3 (by omega)).below D6.below) (HFEW.out 3 (by omega)))
                  rw [← htoo] at KT
                  replace ha1 := Lib.hid ha1
                  replace hz1 := Lib.hid hz1
                  have hlt0 : (tooS s 2).length ≤ 1000000 := by
                    have h1 := HFEW.out 3 (by omega)
                    rw [htoo]; exact Nat.le_trans (List.length_filter_le _ _) h1
                  replace htoo := Lib.hid htoo
                  obtain ⟨c3, c4, c5, c6⟩ := stA_cells D6.bs
                  go_wp2_with fail
                  refine KT.out.mono ?_
                  rintro e w6 ⟨vt, rfl, hownt, hb6⟩
                  clear KT c3 c4 c5 c6 j0 j1 j2 j3 jf2
                  have hs6 := hb6.size
                  have hBw6 : Below w5.heap.size w5 w6 := hBq5.out.trans (hb6.mono hsz5)
                  have D7 := D5.out.call hBw6
                  have hof7 := own_below hof5.out hBw6 (Nat.le_refl _)
                  have hJ7 := (hBw6.block _ hJlt5).trans hJ5.out
                  obtain ⟨⟨j0, j1, j2, j3⟩, jfr⟩ := job_cells hJ7
                  have jf2 := jfr 2
                  clear jfr
                  obtain ⟨At, ct, hvt, hct0, hct1, _, _⟩ := Rd.of_own hownt
                  subst hvt
                  have htJ : Hid ((Value.slice At (tooS s 2).length ct).ownBlock ≠ some J) := fun h => by have := (hownt.lt J h).1; omega
                  have hot7 := own_below hownt (Below.refl _ _) (show w.heap.size + 3 ≤ _ from by omega)
                  -- what stays, whatever is stored into the job
                  have hset : ∀ (W : World) (o : Nat) (u : Value), NR w W s f lim → W.ownsRow (w.heap.size + 3) 56 4 (.slice (some ⟨wq.heap.size, 0, none⟩) (frmS s 2).length 1) (frmS s 2).length ((frmS s 2).flatMap metaC) → W.ownsRow (w.heap.size + 3) 56 4 (.slice At (tooS s 2).length ct) (tooS s 2).length ((tooS s 2).flatMap metaC) →
                      Hid (NR w (W.setCell ⟨J, o, none⟩ u) s f lim) ∧ Hid ((W.setCell ⟨J, o, none⟩ u).ownsRow (w.heap.size + 3) 56 4 (.slice (some ⟨wq.heap.size, 0, none⟩) (frmS s 2).length 1) (frmS s 2).length ((frmS s 2).flatMap metaC)) ∧ Hid ((W.setCell ⟨J, o, none⟩ u).ownsRow (w.heap.size + 3) 56 4 (.slice At (tooS s 2).length ct) (tooS s 2).length ((tooS s 2).flatMap metaC)) := fun W o u hD h1 h2 => by
                    have hne : ∀ g, g ≠ J → (W.setCell ⟨J, o, none⟩ u).heap[g]? = W.heap[g]? := fun g hg => Below.heap_setCell W _ u g hg
                    refine ⟨hD.set hJ3 u, own_heap h1 (fun g _ => ?_), own_heap h2 (fun g _ => ?_)⟩
                    · by_cases hg : g = J
                      · subst hg; exact .inr hfJ.out
                      · exact .inl (hne g hg)
                    · by_cases hg : g = J
                      · subst hg; exact .inr htJ.out
                      · exact .inl (hne g hg)
                  replace hset := Lib.hid hset
                  have hJ8 : Hid ((w6.setCell ⟨J, 2, none⟩ (.slice At (tooS s 2).length ct)).heap[J]? = some (.cells (jobA 2 (.slice (some ⟨wq.heap.size, 0, none⟩) (frmS s 2).length 1) (.slice At (tooS s 2).length ct) false) 37 (0, 0))) := by
                    show _ = _; rw [heap_setCell_same _ _ _ _ _ _ hJ7]; simp [jobA]
                  have hset8 := hset.out w6 2 (.slice At (tooS s 2).length ct) D7 hof7 hot7
                  replace hJ7 := Lib.hid hJ7
                  replace D7 := Lib.hid D7
                  replace hof7 := Lib.hid hof7
                  replace hot7 := Lib.hid hot7
                  clear hownt hBw6 hb6 hs6 D6
                  go_wp2_with fail
                  clear j0 j1 j2 j3 jf2
                  go_loopw [12, 13, 15] (fun av zv iv wq8 => ∃ k : Nat, k ≤ (tooS s 2).length ∧ iv = .int .i64 (k : Int) ∧ av = .string (minF a1 ((tooS s 2).take k)) ∧ zv = .string (maxF z1 ((tooS s 2).take k)) ∧ Hid (wq8.heap[J]? = some (.cells (jobA 2 (.slice (some ⟨wq.heap.size, 0, none⟩) (frmS s 2).length 1) (.slice At (tooS s 2).length ct) false) 37 (0, 0))) ∧ Hid (NR w wq8 s f lim) ∧ Hid (wq8.ownsRow (w.heap.size + 3) 56 4 (.slice (some ⟨wq.heap.size, 0, none⟩) (frmS s 2).length 1) (frmS s 2).length ((frmS s 2).flatMap metaC)) ∧ Hid (wq8.ownsRow (w.heap.size + 3) 56 4 (.slice At (tooS s 2).length ct) (tooS s 2).length ((tooS s 2).flatMap metaC)))
                    (fun _ _ iv _ => (tooS s 2).length - (intOf iv).toNat)
                  case atStart => exact ⟨0, by omega, rfl, rfl, rfl, hJ8, hset8⟩
                  case round =>
                    clear hk1 hk hkl hJ8 hset8 hJ7 D7 hof7 hot7 hBq5 hsz5
                    obtain ⟨k, hk, rfl, rfl, rfl, hJq, hDq, hfq, htq⟩ := hrel
                    obtain ⟨wq8, rfl⟩ : ∃ wq8 : World, wq8 = wr := ⟨_, rfl⟩
                    obtain ⟨⟨j0, j1, j2, j3⟩, jfr⟩ := job_cells hJq.out
                    have jf3 := jfr 3
                    clear jfr
                    by_cases hkl : k < (tooS s 2).length
                    · have hkl' : (k : Int) < (tooS s 2).length := by omega
                      have h0 : (0 : Int) ≤ k := by omega
                      obtain ⟨b', off', x, hA, hblt', hx, e0, e1, e2, e3⟩ := atMeta (Rd.of_own htq.out) (Below.refl _ _) hkl
                      subst hA
                      have n1 := minF_next (a := a1) hkl
                      have n2 := maxF_next (a := z1) hkl
                      rw [hx.out] at n1 n2
                      replace n1 := Lib.hid n1
                      replace n2 := Lib.hid n2
                      generalize minF a1 ((tooS s 2).take k) = av at *
                      generalize maxF z1 ((tooS s 2).take k) = zv at *
                      go_wp2_with fail
                      try (go_quiet (fail); go_wp2_with fail)
                      go_roundw
                      case rel => first | exact ⟨k + 1, by omega, by go_num, by rw [n1.out], by rw [n2.out], hJq, hDq, hfq, htq⟩ | exact ⟨k + 1, by omega, by go_num, by rw [n1.out], by rw [n2.out], hJq, hDq.out.drewN _, hfq, htq⟩
                      case measure => simp [intOf]; omega
                    · obtain rfl : k = (tooS s 2).length := by omega
                      rw [List.take_length]
                      have hne : frmS s 2 ≠ [] := by intro h; rw [h] at hpf; simp at hpf
                      have ea : minF a1 (tooS s 2) = spanA (frmS s 2 ++ tooS s 2) := by unfold spanA; rw [headM_append _ _ hne, minF_append, ← ha1.out]; rfl
                      have ez : maxF z1 (tooS s 2) = spanZ (frmS s 2 ++ tooS s 2) := by unfold spanZ; rw [headM_append _ _ hne, maxF_append, ← hz1.out]; rfl
                      rw [ea, ez]
                      clear ea ez hne
                      obtain ⟨a2, ha2⟩ : ∃ a2, spanA (frmS s 2 ++ tooS s 2) = a2 := ⟨_, rfl⟩
                      obtain ⟨z2, hz2⟩ : ∃ z2, spanZ (frmS s 2 ++ tooS s 2) = z2 := ⟨_, rfl⟩
                      rw [ha2, hz2]
                      have HDB : Hid (∀ k, deepB s 2 k = ((touchL (s.lv k) a2 z2).length == 0)) := fun k => by unfold deepB; rw [ha2, hz2]
                      replace ha2 := Lib.hid ha2
                      replace hz2 := Lib.hid hz2
                      have hJ9 : Hid ((wq8.setCell ⟨J, 3, none⟩ (.bool true)).heap[J]? = some (.cells (jobA 2 (.slice (some ⟨wq.heap.size, 0, none⟩) (frmS s 2).length 1) (.slice At (tooS s 2).length ct) (botS s 2 0)) 37 (0, 0))) := job_set true hJq.out
                      have hset9 := hset.out wq8 3 (.bool true) hDq.out hfq.out htq.out
                      go_wp2_with fail
                      clear j0 j1 j2 j3 jf3
                      go_loopw [16] (fun iv wq9 => ∃ (k : Nat) (z : Int), k ≤ 0 ∧ z = 4 + k ∧ iv = .int .i64 z ∧ Hid (wq9.heap[J]? = some (.cells (jobA 2 (.slice (some ⟨wq.heap.size, 0, none⟩) (frmS s 2).length 1) (.slice At (tooS s 2).length ct) (botS s 2 k)) 37 (0, 0))) ∧ Hid (NR w wq9 s f lim) ∧ Hid (wq9.ownsRow (w.heap.size + 3) 56 4 (.slice (some ⟨wq.heap.size, 0, none⟩) (frmS s 2).length 1) (frmS s 2).length ((frmS s 2).flatMap metaC)) ∧ Hid (wq9.ownsRow (w.heap.size + 3) 56 4 (.slice At (tooS s 2).length ct) (tooS s 2).length ((tooS s 2).flatMap metaC)))
                        (fun iv _ => 4 - (intOf iv).toNat)
                      case atStart => exact ⟨0, 4, by omega, rfl, rfl, hJ9, hset9⟩
                      case round =>
                        clear hJ9 hset9 hJq hDq hfq htq hk hkl
                        obtain ⟨k, z, hk, hzk, rfl, hJq, hDq, hfq, htq⟩ := hrel
                        obtain ⟨wq9, rfl⟩ : ∃ wq9 : World, wq9 = wr := ⟨_, rfl⟩
                        obtain ⟨⟨j0, j1, j2, j3⟩, jfr⟩ := job_cells hJq.out
                        have jf3 := jfr 3
                        clear jfr
                        obtain ⟨c3, c4, c5, c6⟩ := stA_cells hDq.out.bs
                        have hJlt9 := lt_of_at hJq.out
                        by_cases hkK : k < 0
                        · exact absurd hkK (by omega)
                        · obtain rfl : k = 0 := by omega
                          obtain rfl : z = 4 := by omega
                          clear hzk hkK hk
                          have D := hDq.out
                          obtain ⟨⟨p0, p1, p2, p3⟩, pfr⟩ := job_cells D.bo
                          have pf0 := pfr 0
                          have pf1 := pfr 1
                          have pf2 := pfr 2
                          have pf3 := pfr 3
                          clear pfr
                          have hw9 := D.below
                          obtain ⟨bo, hbo⟩ : ∃ bo, botS s 2 0 = bo := ⟨_, rfl⟩
                          rw [hbo] at j3
                          replace hbo := Lib.hid hbo
                          clear c3 c4 c5 c6
                          replace D := Lib.hid D
                          go_wp2_with fail
                          refine bodyPost_ret (v := .tuple #[.agg #[.int .i64 2, (.slice (some ⟨wq.heap.size, 0, none⟩) (frmS s 2).length 1), .slice At (tooS s 2).length ct, .bool bo], .bool true, .int .i64 0]) ?_ rfl ?_
                          · simp [results, Try.results16, go_sem, *]
                          · obtain ⟨r1, r2, r3, r4, r5, r6⟩ := hJ.out
                            refine ⟨(.slice (some ⟨wq.heap.size, 0, none⟩) (frmS s 2).length 1), .slice At (tooS s 2).length ct, by rw [r1, r4, r5, r6, hbo.out], ?_, ?_, below_set4 hw9 (by omega)⟩
                            · rw [r2]; exact Rd.of_own (own_heap hfq.out (fun g hg => .inl (set4_far (by omega))))
                            · rw [r3]; exact Rd.of_own (own_heap htq.out (fun g hg => .inl (set4_far (by omega))))
    · obtain rfl : k = 3 := by omega
      obtain rfl : z = 3 := by omega
      clear hzk hk3 hk
      have hrr : Hid (r = (noJ, false, 0)) := by show _ = _; rw [hr.out]; rfl
      replace D := Lib.hid D
      go_wp2_with fail
      refine bodyPost_ret (v := .tuple #[.agg #[.int .i64 0, .slice none 0 0, .slice none 0 0, .bool false], .bool false, .int .i64 0]) ?_ rfl ?_
      · simp [results, Try.results16, go_sem, *]
      · exact ⟨_, _, by rw [hrr.out]; rfl, by rw [hrr.out]; exact RdX.nil.rd (lo := 0) (hi := 0), by rw [hrr.out]; exact RdX.nil.rd (lo := 0) (hi := 0), below_set4 hw (by omega)⟩

set_option maxRecDepth 100000 in
set_option maxHeartbeats 1000000 in
theorem DocNext_no (s : StD) (f : Nat → Value) (lim : LimD) (w : World) (hlim : limB lim = false) :
    Calls Try.prog 16 #[.agg #[.int .i64 s.log, .int .i64 s.next, .int .i64 s.seq, f 0, f 1, f 2, f 3], .agg #[.int .i64 lim.tables, .int .i64 lim.bytes]] w (DNPost w (nextD s lim)) := by
  have hnd : nextD s lim = (noJ, false, 1) := by unfold nextD; rw [if_pos hlim]
  obtain ⟨r, hr⟩ : ∃ r, nextD s lim = r := ⟨_, rfl⟩
  rw [hr] at hnd ⊢
  clear hr
  replace hnd := Lib.hid hnd
  have KL := Lib.hid (fun W => RightL_calls lim W)
  rw [hlim] at KL
  clear hlim
  go_enter Try.func16, Try.ntmps16
  go_wp2_with fail
  refine (KL.out _).mono ?_
  rintro e w1 ⟨rfl, hb1⟩
  have D : NR w w1 s f lim := NR.call ⟨new_old (new_old (new_at rfl)), new_old (new_at (by simp)), new_at (by simp), (((Below.refl _ _).alloc (Nat.le_refl _) _).alloc (by simp) _).alloc (by simp; omega) _⟩ hb1
  clear KL hb1
  obtain ⟨⟨p0, p1, p2, p3⟩, pfr⟩ := job_cells D.bo
  have pf0 := pfr 0
  have pf1 := pfr 1
  have pf2 := pfr 2
  have pf3 := pfr 3
  clear pfr
  have hw := D.below
  replace D := Lib.hid D
  go_wp2_with fail
  refine bodyPost_ret (v := .tuple #[.agg #[.int .i64 0, .slice none 0 0, .slice none 0 0, .bool false], .bool false, .int .i64 1]) ?_ rfl ?_
  · simp [results, Try.results16, go_sem, *]
  · exact ⟨_, _, by rw [hnd.out]; rfl, by rw [hnd.out]; exact RdX.nil.rd (lo := 0) (hi := 0), by rw [hnd.out]; exact RdX.nil.rd (lo := 0) (hi := 0), below_set4 hw (by omega)⟩

theorem DocNext_calls (s : StD) (f : Nat → Value) (lim : LimD) (w : World) (hf : RdLv w f s) (g : Gd s 30) :
    Calls Try.prog 16 #[.agg #[.int .i64 s.log, .int .i64 s.next, .int .i64 s.seq, f 0, f 1, f 2, f 3], .agg #[.int .i64 lim.tables, .int .i64 lim.bytes]] w (DNPost w (nextD s lim)) := by
  rcases h : limB lim with _ | _
  · exact DocNext_no s f lim w h
  · exact DocNext_yes s f lim w hf g h
end Go.Proofs.Ytheanmfdfoefoaa
