/- pick.Next. -/
import Derived.Test.YtheanmfdfoefoaaPickJob
namespace Go.Proofs.Ytheanmfdfoefoaa
open Go Go.RowKit

theorem stA_all {w : World} {b : Nat} {t : TypeId} {s : StD} {f : Nat → Value} (h : w.heap[b]? = some (.cells (stA s f) t (0, 0))) :
    w.cell? ⟨b, 0, none⟩ = some (.int .i64 s.log) ∧ w.cell? ⟨b, 1, none⟩ = some (.int .i64 s.next) ∧ w.cell? ⟨b, 2, none⟩ = some (.int .i64 s.seq) ∧ w.cell? ⟨b, 3, none⟩ = some (f 0) ∧ w.cell? ⟨b, 4, none⟩ = some (f 1) ∧ w.cell? ⟨b, 5, none⟩ = some (f 2) ∧ w.cell? ⟨b, 6, none⟩ = some (f 3) := by
  refine ⟨?_, ?_, ?_, ?_, ?_, ?_, ?_⟩ <;> simp [World.cell?, h, stA]
theorem full_pos {s : StD} {lim : LimD} {n : Nat} (hn : n < 3) (h1 : limB lim = true) (h2 : fullB (s.lv n) n (fullD lim n).1 = true) : 0 < (s.lv n).length := by
  have hl := (limB_iff' lim).1 h1
  rcases Nat.eq_zero_or_pos (s.lv n).length with h0 | h0
  · exfalso
    have he := List.eq_nil_of_length_eq_zero h0
    rw [he] at h2
    obtain rfl | rfl | rfl : n = 0 ∨ n = 1 ∨ n = 2 := by omega
    all_goals
      simp [fullB, fullD, sizeL, h1] at h2
      omega
  · exact h0
/-- The three blocks of Next. -/
structure NA (w wr : World) (s : StD) (f : Nat → Value) (lim : LimD) : Prop where
  bs : wr.heap[w.heap.size]? = some (.cells (stA s f) 33 (0, 0))
  bl : wr.heap[w.heap.size + 1]? = some (.cells #[.int .i64 lim.tables, .int .i64 lim.bytes] 35 (0, 0))
  bo : wr.heap[w.heap.size + 2]? = some (.cells (jobA 0 (.slice none 0 0) (.slice none 0 0) false) 42 (0, 0))
  below : Below w.heap.size w wr
theorem NA.call {w wr w1 : World} {s : StD} {f : Nat → Value} {lim : LimD} (h : NA w wr s f lim) (hb : Below wr.heap.size wr w1) : NA w w1 s f lim := by
  have := lt_of_at h.bo
  exact ⟨(hb.block _ (by omega)).trans h.bs, (hb.block _ (by omega)).trans h.bl, (hb.block _ (by omega)).trans h.bo, h.below.trans (hb.mono h.below.size)⟩
def NextPost (w : World) (r : JobD × Bool × Int) (e : Ending) (w' : World) : Prop :=
  ∃ vf vt, e = .returned (.tuple #[.agg #[.int .i64 r.1.level, vf, vt, .bool r.1.bottom], .bool r.2.1, .int .i64 r.2.2]) ∧ w'.ownsRow w.heap.size 51 4 vf r.1.frm.length (r.1.frm.flatMap metaC) ∧ w'.ownsRow w.heap.size 51 4 vt r.1.too.length (r.1.too.flatMap metaC) ∧ Below w.heap.size w w'

set_option maxRecDepth 100000 in
set_option maxHeartbeats 2000000 in
theorem Next_calls (s : StD) (f : Nat → Value) (lim : LimD) (w : World) (hf : RdLv w f s) (g : Gd s 30) :
    Calls Try.prog 17 #[.agg #[.int .i64 s.log, .int .i64 s.next, .int .i64 s.seq, f 0, f 1, f 2, f 3], .agg #[.int .i64 lim.tables, .int .i64 lim.bytes]] w (NextPost w (nextD s lim)) := by
  have HF := Lib.hid hf
  have HG := Lib.hid g
  have HFEW := Lib.hid (fun k hk => Nat.le_trans (g.few k hk) (show 30 ≤ 1000000 by omega))
  have hnd : nextD s lim = if limB lim = false then (noJ, false, 1) else nextS s lim 3 0 := rfl
  obtain ⟨r, hr⟩ : ∃ r, nextD s lim = r := ⟨_, rfl⟩
  rw [hr] at hnd ⊢
  clear hr hf g
  have hno : Hid (limB lim = false → r = (noJ, false, 1)) := fun h => by rw [hnd, if_pos h]
  have hr0 : Hid (limB lim = true → r = nextS s lim (3 - 0) 0) := fun h => by rw [hnd, if_neg (by rw [h]; simp)]
  clear hnd
  go_enter Try.func17, Try.ntmps17
  go_wp2_with fail
  go_loopw [10] (fun iv wr => ∃ (k : Nat) (z : Int), k ≤ 3 ∧ z = k ∧ iv = .int .i64 z ∧ Hid (0 < k → limB lim = true) ∧ Hid (limB lim = true → r = nextS s lim (3 - k) k) ∧ Hid (NA w wr s f lim))
    (fun iv _ => 3 - (intOf iv).toNat)
  case atStart => exact ⟨0, 0, by omega, rfl, rfl, fun h => absurd h (by omega), hr0, ⟨new_old (new_old (new_at rfl)), new_old (new_at (by simp)), new_at (by simp), (((Below.refl _ _).alloc (Nat.le_refl _) _).alloc (by simp) _).alloc (by simp; omega) _⟩⟩
  case round =>
    clear hr0
    obtain ⟨k, z, hk, hzk, rfl, hlk, hr, hD⟩ := hrel
    have D := hD.out
    obtain ⟨⟨p0, p1, p2, p3⟩, pfr⟩ := job_cells D.bo
    have pf0 := pfr 0
    have pf1 := pfr 1
    have pf2 := pfr 2
    have pf3 := pfr 3
    clear pfr
    obtain ⟨c3, c4, c5, c6⟩ := stA_cells D.bs
    have l0 : wr.cell? ⟨w.heap.size + 1, 0, none⟩ = some (.int .i64 lim.tables) := by have := D.bl; simp [World.cell?, this]
    have l1 : wr.cell? ⟨w.heap.size + 1, 1, none⟩ = some (.int .i64 lim.bytes) := by have := D.bl; simp [World.cell?, this]
    have hw := D.below
    by_cases hk3 : k < 3
    · have hcs : (k = 0 ∧ z = 0) ∨ (k = 1 ∧ z = 1) ∨ (k = 2 ∧ z = 2) := by omega
      rcases hcs with ⟨rfl, rfl⟩ | ⟨rfl, rfl⟩ | ⟨rfl, rfl⟩
      all_goals clear hzk hk3 hk
      · have hstep : Hid (limB lim = true → r = if fullB (s.lv 0) 0 (fullD lim 0).1 then (jobS s 0, true, 0) else nextS s lim 2 1) := fun h => by rw [hr.out h]; rfl
        have KF := Lib.hid (Full_calls lim 0 wr)
        obtain ⟨fd, hfd⟩ : ∃ fd, fullD lim 0 = fd := ⟨_, rfl⟩
        rw [hfd] at KF hstep
        have hfd2 : fd.2 = if limB lim = false then 1 else 0 := by
          rw [← hfd]; unfold fullD
          split
          · rename_i h; rcases h with h | h | h
            · rw [if_pos h]
            · omega
            · omega
          · rename_i h; rw [if_neg (fun h' => h (.inl h'))]
        have hfd1 : Hid (limB lim = true → fullB (s.lv 0) 0 fd.1 = true → 0 < (s.lv 0).length) := fun h1 h2 => by
          rw [← hfd] at h2; exact full_pos (n := 0) (by omega) h1 h2
        clear hfd
        go_wp2_with fail
        refine KF.out.mono ?_
        rintro e w2 ⟨rfl, hb2⟩
        clear KF l0 l1 c3 c4 c5 c6 p0 p1 p2 p3 pf0 pf1 pf2 pf3
        have D2 := D.call hb2
        obtain ⟨⟨p0, p1, p2, p3⟩, pfr⟩ := job_cells D2.bo
        have pf0 := pfr 0
        have pf1 := pfr 1
        have pf2 := pfr 2
        have pf3 := pfr 3
        clear pfr
        obtain ⟨c0, c1, c2_, c3, c4, c5, c6⟩ := stA_all D2.bs
        have hw2 := D2.below
        obtain ⟨fl, fe⟩ := fd
        simp only at hfd2 hstep hfd1 ⊢
        rcases hlim : limB lim with _ | _
        · rw [hlim, if_pos rfl] at hfd2
          subst hfd2
          have hrr := hno.out hlim
          replace hrr := Lib.hid hrr
          replace D2 := Lib.hid D2
          clear hlim
          go_wp2_with fail
          refine bodyPost_ret (v := .tuple #[.agg #[.int .i64 0, .slice none 0 0, .slice none 0 0, .bool false], .bool false, .int .i64 1]) ?_ rfl ?_
          · simp [results, Try.results17, go_sem, *]
          · exact ⟨_, _, by rw [hrr.out]; rfl, by rw [hrr.out]; exact World.ownsRow_nil _ _ _ _, by rw [hrr.out]; exact World.ownsRow_nil _ _ _ _, below_set4 hw2 (by omega)⟩
        · rw [hlim, if_neg (by simp)] at hfd2
          subst hfd2
          have hst := hstep.out hlim
          have KU := Lib.hid (full_calls (s.lv 0) 0 fl (f 0) w2 ((HF.out 0 (by omega)).below D2.below) (HFEW.out 0 (by omega)) (fun m hm => by have := tableB_bd (HG.out.good _ _ hm); omega))
          obtain ⟨bl, hbl⟩ : ∃ bl, fullB (s.lv 0) 0 fl = bl := ⟨_, rfl⟩
          rw [hbl] at KU hst
          have hps : Hid (bl = true → 0 < (s.lv 0).length) := fun h => hfd1.out hlim (by rw [hbl, h])
          replace hst := Lib.hid hst
          replace hlim := Lib.hid hlim
          clear hbl hfd1 hstep
          replace D2 := Lib.hid D2
          clear p0 p1 p2 p3 pf0 pf1 pf2 pf3 c0 c1 c2_
          go_wp2_with fail
          refine KU.out.mono ?_
          rintro e w3 ⟨rfl, hb3⟩
          clear KU c3 c4 c5 c6
          have D3 := D2.out.call hb3
          obtain ⟨⟨p0, p1, p2, p3⟩, pfr⟩ := job_cells D3.bo
          have pf0 := pfr 0
          have pf1 := pfr 1
          have pf2 := pfr 2
          have pf3 := pfr 3
          clear pfr
          obtain ⟨c0, c1, c2_, c3, c4, c5, c6⟩ := stA_all D3.bs
          have hw3 := D3.below
          cases bl
          · have hr2 : Hid (limB lim = true → r = nextS s lim 2 1) := fun _ => by rw [hst.out]; rfl
            replace D3 := Lib.hid D3
            clear p0 p1 p2 p3 pf0 pf1 pf2 pf3 c0 c1 c2_ c3 c4 c5 c6
            go_wp2_with fail
            go_roundw
            case rel => exact ⟨1, 1, by omega, rfl, rfl, fun _ => hlim.out, hr2, D3⟩
            case measure => simp [intOf]
          · have hrr : r = (jobS s 0, true, 0) := by rw [hst.out]; rfl
            have KJ := Lib.hid (job0_calls s f w3 (fun n hn => (HF.out n hn).below hw3) HG.out (hps.out rfl))
            obtain ⟨j, hj⟩ : ∃ j, jobS s 0 = j := ⟨_, rfl⟩
            rw [hj] at KJ hrr
            replace hrr := Lib.hid hrr
            clear hj hps
            replace D3 := Lib.hid D3
            clear p0 p1 p2 p3 pf0 pf1 pf2 pf3
            go_wp2_with fail
            refine KJ.out.mono ?_
            rintro e w4 ⟨vf, vt, rfl, hof, hot, hb4⟩
            clear KJ c0 c1 c2_ c3 c4 c5 c6
            have hs3 := D3.out.below.size
            have hlt3 := lt_of_at D3.out.bo
            have D4 := D3.out.call hb4
            obtain ⟨⟨p0, p1, p2, p3⟩, pfr⟩ := job_cells D4.bo
            have pf0 := pfr 0
            have pf1 := pfr 1
            have pf2 := pfr 2
            have pf3 := pfr 3
            clear pfr
            have hw4 := D4.below
            obtain ⟨A1, q1, hv1, _, _, _, _⟩ := Rd.of_own hof
            obtain ⟨A2, q2, hv2, _, _, _, _⟩ := Rd.of_own hot
            subst hv1 hv2
            replace D4 := Lib.hid D4
            replace hof := Lib.hid hof
            replace hot := Lib.hid hot
            go_wp2_with fail
            refine bodyPost_ret (v := .tuple #[.agg #[.int .i64 j.level, .slice A1 j.frm.length q1, .slice A2 j.too.length q2, .bool j.bottom], .bool true, .int .i64 0]) ?_ rfl ?_
            · simp [results, Try.results17, go_sem, *]
            · refine ⟨_, _, by rw [hrr.out], ?_, ?_, below_set4 hw4 (by omega)⟩
              · rw [hrr.out]; exact own_below (own_heap hof.out (fun g hg => .inl (set4_far (by omega)))) (Below.refl _ _) (by omega)
              · rw [hrr.out]; exact own_below (own_heap hot.out (fun g hg => .inl (set4_far (by omega)))) (Below.refl _ _) (by omega)
      · have hstep : Hid (limB lim = true → r = if fullB (s.lv 1) 1 (fullD lim 1).1 then (jobS s 1, true, 0) else nextS s lim 1 2) := fun h => by rw [hr.out h]; rfl
        have KF := Lib.hid (Full_calls lim 1 wr)
        obtain ⟨fd, hfd⟩ : ∃ fd, fullD lim 1 = fd := ⟨_, rfl⟩
        rw [hfd] at KF hstep
        have hfd2 : fd.2 = if limB lim = false then 1 else 0 := by
          rw [← hfd]; unfold fullD
          split
          · rename_i h; rcases h with h | h | h
            · rw [if_pos h]
            · omega
            · omega
          · rename_i h; rw [if_neg (fun h' => h (.inl h'))]
        have hfd1 : Hid (limB lim = true → fullB (s.lv 1) 1 fd.1 = true → 0 < (s.lv 1).length) := fun h1 h2 => by
          rw [← hfd] at h2; exact full_pos (n := 1) (by omega) h1 h2
        clear hfd
        go_wp2_with fail
        refine KF.out.mono ?_
        rintro e w2 ⟨rfl, hb2⟩
        clear KF l0 l1 c3 c4 c5 c6 p0 p1 p2 p3 pf0 pf1 pf2 pf3
        have D2 := D.call hb2
        obtain ⟨⟨p0, p1, p2, p3⟩, pfr⟩ := job_cells D2.bo
        have pf0 := pfr 0
        have pf1 := pfr 1
        have pf2 := pfr 2
        have pf3 := pfr 3
        clear pfr
        obtain ⟨c0, c1, c2_, c3, c4, c5, c6⟩ := stA_all D2.bs
        have hw2 := D2.below
        obtain ⟨fl, fe⟩ := fd
        simp only at hfd2 hstep hfd1 ⊢
        rcases hlim : limB lim with _ | _
        · rw [hlim, if_pos rfl] at hfd2
          subst hfd2
          have hrr := hno.out hlim
          replace hrr := Lib.hid hrr
          replace D2 := Lib.hid D2
          clear hlim
          go_wp2_with fail
          refine bodyPost_ret (v := .tuple #[.agg #[.int .i64 0, .slice none 0 0, .slice none 0 0, .bool false], .bool false, .int .i64 1]) ?_ rfl ?_
          · simp [results, Try.results17, go_sem, *]
          · exact ⟨_, _, by rw [hrr.out]; rfl, by rw [hrr.out]; exact World.ownsRow_nil _ _ _ _, by rw [hrr.out]; exact World.ownsRow_nil _ _ _ _, below_set4 hw2 (by omega)⟩
        · rw [hlim, if_neg (by simp)] at hfd2
          subst hfd2
          have hst := hstep.out hlim
          have KU := Lib.hid (full_calls (s.lv 1) 1 fl (f 1) w2 ((HF.out 1 (by omega)).below D2.below) (HFEW.out 1 (by omega)) (fun m hm => by have := tableB_bd (HG.out.good _ _ hm); omega))
          obtain ⟨bl, hbl⟩ : ∃ bl, fullB (s.lv 1) 1 fl = bl := ⟨_, rfl⟩
          rw [hbl] at KU hst
          have hps : Hid (bl = true → 0 < (s.lv 1).length) := fun h => hfd1.out hlim (by rw [hbl, h])
          replace hst := Lib.hid hst
          replace hlim := Lib.hid hlim
          clear hbl hfd1 hstep
          replace D2 := Lib.hid D2
          clear p0 p1 p2 p3 pf0 pf1 pf2 pf3 c0 c1 c2_
          go_wp2_with fail
          refine KU.out.mono ?_
          rintro e w3 ⟨rfl, hb3⟩
          clear KU c3 c4 c5 c6
          have D3 := D2.out.call hb3
          obtain ⟨⟨p0, p1, p2, p3⟩, pfr⟩ := job_cells D3.bo
          have pf0 := pfr 0
          have pf1 := pfr 1
          have pf2 := pfr 2
          have pf3 := pfr 3
          clear pfr
          obtain ⟨c0, c1, c2_, c3, c4, c5, c6⟩ := stA_all D3.bs
          have hw3 := D3.below
          cases bl
          · have hr2 : Hid (limB lim = true → r = nextS s lim 1 2) := fun _ => by rw [hst.out]; rfl
            replace D3 := Lib.hid D3
            clear p0 p1 p2 p3 pf0 pf1 pf2 pf3 c0 c1 c2_ c3 c4 c5 c6
            go_wp2_with fail
            go_roundw
            case rel => exact ⟨2, 2, by omega, rfl, rfl, fun _ => hlim.out, hr2, D3⟩
            case measure => simp [intOf]
          · have hrr : r = (jobS s 1, true, 0) := by rw [hst.out]; rfl
            have KJ := Lib.hid (job1_calls s f w3 (fun n hn => (HF.out n hn).below hw3) HG.out (hps.out rfl))
            obtain ⟨j, hj⟩ : ∃ j, jobS s 1 = j := ⟨_, rfl⟩
            rw [hj] at KJ hrr
            replace hrr := Lib.hid hrr
            clear hj hps
            replace D3 := Lib.hid D3
            clear p0 p1 p2 p3 pf0 pf1 pf2 pf3
            go_wp2_with fail
            refine KJ.out.mono ?_
            rintro e w4 ⟨vf, vt, rfl, hof, hot, hb4⟩
            clear KJ c0 c1 c2_ c3 c4 c5 c6
            have hs3 := D3.out.below.size
            have hlt3 := lt_of_at D3.out.bo
            have D4 := D3.out.call hb4
            obtain ⟨⟨p0, p1, p2, p3⟩, pfr⟩ := job_cells D4.bo
            have pf0 := pfr 0
            have pf1 := pfr 1
            have pf2 := pfr 2
            have pf3 := pfr 3
            clear pfr
            have hw4 := D4.below
            obtain ⟨A1, q1, hv1, _, _, _, _⟩ := Rd.of_own hof
            obtain ⟨A2, q2, hv2, _, _, _, _⟩ := Rd.of_own hot
            subst hv1 hv2
            replace D4 := Lib.hid D4
            replace hof := Lib.hid hof
            replace hot := Lib.hid hot
            go_wp2_with fail
            refine bodyPost_ret (v := .tuple #[.agg #[.int .i64 j.level, .slice A1 j.frm.length q1, .slice A2 j.too.length q2, .bool j.bottom], .bool true, .int .i64 0]) ?_ rfl ?_
            · simp [results, Try.results17, go_sem, *]
            · refine ⟨_, _, by rw [hrr.out], ?_, ?_, below_set4 hw4 (by omega)⟩
              · rw [hrr.out]; exact own_below (own_heap hof.out (fun g hg => .inl (set4_far (by omega)))) (Below.refl _ _) (by omega)
              · rw [hrr.out]; exact own_below (own_heap hot.out (fun g hg => .inl (set4_far (by omega)))) (Below.refl _ _) (by omega)
      · have hstep : Hid (limB lim = true → r = if fullB (s.lv 2) 2 (fullD lim 2).1 then (jobS s 2, true, 0) else nextS s lim 0 3) := fun h => by rw [hr.out h]; rfl
        have KF := Lib.hid (Full_calls lim 2 wr)
        obtain ⟨fd, hfd⟩ : ∃ fd, fullD lim 2 = fd := ⟨_, rfl⟩
        rw [hfd] at KF hstep
        have hfd2 : fd.2 = if limB lim = false then 1 else 0 := by
          rw [← hfd]; unfold fullD
          split
          · rename_i h; rcases h with h | h | h
            · rw [if_pos h]
            · omega
            · omega
          · rename_i h; rw [if_neg (fun h' => h (.inl h'))]
        have hfd1 : Hid (limB lim = true → fullB (s.lv 2) 2 fd.1 = true → 0 < (s.lv 2).length) := fun h1 h2 => by
          rw [← hfd] at h2; exact full_pos (n := 2) (by omega) h1 h2
        clear hfd
        go_wp2_with fail
        refine KF.out.mono ?_
        rintro e w2 ⟨rfl, hb2⟩
        clear KF l0 l1 c3 c4 c5 c6 p0 p1 p2 p3 pf0 pf1 pf2 pf3
        have D2 := D.call hb2
        obtain ⟨⟨p0, p1, p2, p3⟩, pfr⟩ := job_cells D2.bo
        have pf0 := pfr 0
        have pf1 := pfr 1
        have pf2 := pfr 2
        have pf3 := pfr 3
        clear pfr
        obtain ⟨c0, c1, c2_, c3, c4, c5, c6⟩ := stA_all D2.bs
        have hw2 := D2.below
        obtain ⟨fl, fe⟩ := fd
        simp only at hfd2 hstep hfd1 ⊢
        rcases hlim : limB lim with _ | _
        · rw [hlim, if_pos rfl] at hfd2
          subst hfd2
          have hrr := hno.out hlim
          replace hrr := Lib.hid hrr
          replace D2 := Lib.hid D2
          clear hlim
          go_wp2_with fail
          refine bodyPost_ret (v := .tuple #[.agg #[.int .i64 0, .slice none 0 0, .slice none 0 0, .bool false], .bool false, .int .i64 1]) ?_ rfl ?_
          · simp [results, Try.results17, go_sem, *]
          · exact ⟨_, _, by rw [hrr.out]; rfl, by rw [hrr.out]; exact World.ownsRow_nil _ _ _ _, by rw [hrr.out]; exact World.ownsRow_nil _ _ _ _, below_set4 hw2 (by omega)⟩
        · rw [hlim, if_neg (by simp)] at hfd2
          subst hfd2
          have hst := hstep.out hlim
          have KU := Lib.hid (full_calls (s.lv 2) 2 fl (f 2) w2 ((HF.out 2 (by omega)).below D2.below) (HFEW.out 2 (by omega)) (fun m hm => by have := tableB_bd (HG.out.good _ _ hm); omega))
          obtain ⟨bl, hbl⟩ : ∃ bl, fullB (s.lv 2) 2 fl = bl := ⟨_, rfl⟩
          rw [hbl] at KU hst
          have hps : Hid (bl = true → 0 < (s.lv 2).length) := fun h => hfd1.out hlim (by rw [hbl, h])
          replace hst := Lib.hid hst
          replace hlim := Lib.hid hlim
          clear hbl hfd1 hstep
          replace D2 := Lib.hid D2
          clear p0 p1 p2 p3 pf0 pf1 pf2 pf3 c0 c1 c2_
          go_wp2_with fail
          refine KU.out.mono ?_
          rintro e w3 ⟨rfl, hb3⟩
          clear KU c3 c4 c5 c6
          have D3 := D2.out.call hb3
          obtain ⟨⟨p0, p1, p2, p3⟩, pfr⟩ := job_cells D3.bo
          have pf0 := pfr 0
          have pf1 := pfr 1
          have pf2 := pfr 2
          have pf3 := pfr 3
          clear pfr
          obtain ⟨c0, c1, c2_, c3, c4, c5, c6⟩ := stA_all D3.bs
          have hw3 := D3.below
          cases bl
          · have hr2 : Hid (limB lim = true → r = nextS s lim 0 3) := fun _ => by rw [hst.out]; rfl
            replace D3 := Lib.hid D3
            clear p0 p1 p2 p3 pf0 pf1 pf2 pf3 c0 c1 c2_ c3 c4 c5 c6
            go_wp2_with fail
            go_roundw
            case rel => exact ⟨3, 3, by omega, rfl, rfl, fun _ => hlim.out, hr2, D3⟩
            case measure => simp [intOf]
          · have hrr : r = (jobS s 2, true, 0) := by rw [hst.out]; rfl
            have KJ := Lib.hid (job2_calls s f w3 (fun n hn => (HF.out n hn).below hw3) HG.out (hps.out rfl))
            obtain ⟨j, hj⟩ : ∃ j, jobS s 2 = j := ⟨_, rfl⟩
            rw [hj] at KJ hrr
            replace hrr := Lib.hid hrr
            clear hj hps
            replace D3 := Lib.hid D3
            clear p0 p1 p2 p3 pf0 pf1 pf2 pf3
            go_wp2_with fail
            refine KJ.out.mono ?_
            rintro e w4 ⟨vf, vt, rfl, hof, hot, hb4⟩
            clear KJ c0 c1 c2_ c3 c4 c5 c6
            have hs3 := D3.out.below.size
            have hlt3 := lt_of_at D3.out.bo
            have D4 := D3.out.call hb4
            obtain ⟨⟨p0, p1, p2, p3⟩, pfr⟩ := job_cells D4.bo
            have pf0 := pfr 0
            have pf1 := pfr 1
            have pf2 := pfr 2
            have pf3 := pfr 3
            clear pfr
            have hw4 := D4.below
            obtain ⟨A1, q1, hv1, _, _, _, _⟩ := Rd.of_own hof
            obtain ⟨A2, q2, hv2, _, _, _, _⟩ := Rd.of_own hot
            subst hv1 hv2
            replace D4 := Lib.hid D4
            replace hof := Lib.hid hof
            replace hot := Lib.hid hot
            go_wp2_with fail
            refine bodyPost_ret (v := .tuple #[.agg #[.int .i64 j.level, .slice A1 j.frm.length q1, .slice A2 j.too.length q2, .bool j.bottom], .bool true, .int .i64 0]) ?_ rfl ?_
            · simp [results, Try.results17, go_sem, *]
            · refine ⟨_, _, by rw [hrr.out], ?_, ?_, below_set4 hw4 (by omega)⟩
              · rw [hrr.out]; exact own_below (own_heap hof.out (fun g hg => .inl (set4_far (by omega)))) (Below.refl _ _) (by omega)
              · rw [hrr.out]; exact own_below (own_heap hot.out (fun g hg => .inl (set4_far (by omega)))) (Below.refl _ _) (by omega)
    · obtain rfl : k = 3 := by omega
      obtain rfl : z = 3 := by omega
      clear hzk hk3 hk
      have hrr : Hid (r = (noJ, false, 0)) := by show _ = _; rw [hr.out (hlk.out (by omega))]; rfl
      replace D := Lib.hid D
      go_wp2_with fail
      refine bodyPost_ret (v := .tuple #[.agg #[.int .i64 0, .slice none 0 0, .slice none 0 0, .bool false], .bool false, .int .i64 0]) ?_ rfl ?_
      · simp [results, Try.results17, go_sem, *]
      · exact ⟨_, _, by rw [hrr.out]; rfl, by rw [hrr.out]; exact World.ownsRow_nil _ _ _ _, by rw [hrr.out]; exact World.ownsRow_nil _ _ _ _, below_set4 hw (by omega)⟩
end Go.Proofs.Ytheanmfdfoefoaa
