/- pick.job, at each level. -/
import Derived.Test.YtheanmfdfoefoaaPickMin
import Derived.Test.YtheanmfdfoefoaaRefLev
namespace Go.Proofs.Ytheanmfdfoefoaa
open Go Go.RowKit

theorem own_heap {w w' : World} {base : Nat} {e : TypeId} {size n : Nat} {v : Value} {xs : List Value} (h : w.ownsRow base e size v n xs) (hk : ∀ g, base ≤ g → w'.heap[g]? = w.heap[g]? ∨ v.ownBlock ≠ some g) : w'.ownsRow base e size v n xs := by
  obtain ⟨h1, h2⟩ := h
  refine ⟨h1, ?_⟩
  rcases h2 with h2 | ⟨g, cap, cur, rfl, hg, hh, r⟩
  · exact .inl h2
  · rcases hk g hg with e | e
    · exact .inr ⟨g, cap, cur, rfl, hg, e.trans hh, r⟩
    · exact absurd rfl e
def jobA (n : Int) (vf vt : Value) (b : Bool) : Array Value := #[.int .i64 n, vf, vt, .bool b]
theorem job_cells {w : World} {b : Nat} {t : TypeId} {n : Int} {vf vt : Value} {q : Bool} (h : w.heap[b]? = some (.cells (jobA n vf vt q) t (0, 0))) :
    (w.cell? ⟨b, 0, none⟩ = some (.int .i64 n) ∧ w.cell? ⟨b, 1, none⟩ = some vf ∧ w.cell? ⟨b, 2, none⟩ = some vt ∧ w.cell? ⟨b, 3, none⟩ = some (.bool q)) ∧ ∀ k, w.frozen? ⟨b, k, none⟩ = false := by
  refine ⟨⟨?_, ?_, ?_, ?_⟩, fun k => ?_⟩
  · simp [World.cell?, h, jobA]
  · simp [World.cell?, h, jobA]
  · simp [World.cell?, h, jobA]
  · simp [World.cell?, h, jobA]
  · simp [World.frozen?, h]
theorem job_set {w : World} {b : Nat} {t : TypeId} {n : Int} {vf vt : Value} {q : Bool} (q' : Bool) (h : w.heap[b]? = some (.cells (jobA n vf vt q) t (0, 0))) : (w.setCell ⟨b, 3, none⟩ (.bool q')).heap[b]? = some (.cells (jobA n vf vt q') t (0, 0)) := by
  rw [heap_setCell_same _ _ _ _ _ _ h]; simp [jobA]
theorem stA_cells {w : World} {b : Nat} {t : TypeId} {s : StD} {f : Nat → Value} (h : w.heap[b]? = some (.cells (stA s f) t (0, 0))) :
    w.cell? ⟨b, 3, none⟩ = some (f 0) ∧ w.cell? ⟨b, 4, none⟩ = some (f 1) ∧ w.cell? ⟨b, 5, none⟩ = some (f 2) ∧ w.cell? ⟨b, 6, none⟩ = some (f 3) := by
  refine ⟨?_, ?_, ?_, ?_⟩ <;> simp [World.cell?, h, stA]
/-- What a job is like behind the call. -/
def JobPost (w : World) (j : JobD) (e : Ending) (w' : World) : Prop :=
  ∃ vf vt, e = .returned (.agg #[.int .i64 j.level, vf, vt, .bool j.bottom]) ∧ w'.ownsRow w.heap.size 51 4 vf j.frm.length (j.frm.flatMap metaC) ∧ w'.ownsRow w.heap.size 51 4 vt j.too.length (j.too.flatMap metaC) ∧ Below w.heap.size w w'

set_option maxRecDepth 100000 in
set_option maxHeartbeats 2000000 in
theorem job0_calls (s : StD) (f : Nat → Value) (w : World) (hf : RdLv w f s) (g : Gd s 30) (hne : 0 < (s.lv 0).length) :
    Calls Try.prog 56 #[.agg #[.int .i64 s.log, .int .i64 s.next, .int .i64 s.seq, f 0, f 1, f 2, f 3], .int .i64 0] w (JobPost w (jobS s 0)) := by
  have hfew := g.few 0 (by omega)
  have hbd : ∀ m ∈ s.lv 0, 1 ≤ m.file ∧ m.file ≤ 999999 := fun m hm => by have := tableB_bd (g.good _ _ hm); omega
  have HFEW := Lib.hid (fun k hk => Nat.le_trans (g.few k hk) (show 30 ≤ 1000000 by omega))
  have HF := Lib.hid hf
  have KC := Lib.hid (fun W (h : Below w.heap.size w W) => Clone_calls (s.lv 0) (f 0) W ((hf 0 (by omega)).below h) (by omega))
  have hJ : Hid ((jobS s 0).level = 0 ∧ (jobS s 0).frm = frmS s 0 ∧ (jobS s 0).too = tooS s 0 ∧ (jobS s 0).bottom = botS s 0 2) := ⟨rfl, rfl, rfl, rfl⟩
  obtain ⟨j, hj⟩ : ∃ j, jobS s 0 = j := ⟨_, rfl⟩
  rw [hj] at hJ ⊢
  clear hj hf
  replace hbd := Lib.hid hbd
  go_enter Try.func56, Try.ntmps56
  go_wp2_with fail
  refine (KC.out _ (((Below.refl _ _).alloc (Nat.le_refl _) _).alloc (by simp) _)).mono ?_
  rintro e w1 ⟨v1, rfl, hown1, hb1⟩
  have hs1 := hb1.size
  simp only [World.size_alloc] at hs1
  have hH1 : Hid (w1.heap[w.heap.size]? = some (.cells (stA s f) 33 (0, 0))) := (hb1.block _ (by simp; omega)).trans (new_old (new_at rfl))
  have hR1 : Hid (w1.heap[w.heap.size + 1]? = some (.cells (jobA 0 (.slice none 0 0) (.slice none 0 0) false) 42 (0, 0))) := (hb1.block _ (by simp)).trans (new_at (by simp))
  have hB1 : Below w.heap.size w w1 := (((Below.refl _ _).alloc (Nat.le_refl _) _).alloc (by simp) _).trans (hb1.mono (by simp; omega))
  replace hown1 : w1.ownsRow (w.heap.size + 2) 51 4 v1 (s.lv 0).length ((s.lv 0).flatMap metaC) := own_below hown1 (Below.refl _ _) (by simp)
  clear hb1 KC
  -- the tables that go down
  obtain ⟨w2, hw2⟩ : ∃ w2, w2 = w1 := ⟨_, rfl⟩
  obtain ⟨vf, hvf⟩ : ∃ vf, vf = v1 := ⟨_, rfl⟩
  have hownf : w2.ownsRow (w.heap.size + 2) 51 4 vf (frmS s 0).length ((frmS s 0).flatMap metaC) := by rw [hw2, hvf]; exact hown1
  rw [← hw2] at hH1 hR1 hB1 hs1 ⊢
  rw [← hvf]
  clear hown1
  obtain ⟨A1, c1, hvs, _, _, _, _⟩ := Rd.of_own hownf
  subst hvs
  clear hw2 hvf
  have hpos : 0 < (frmS s 0).length := hne
  have KS := Lib.hid (span_calls (frmS s 0) (.slice A1 (s.lv 0).length c1) _ (Rd.of_own hownf) hpos)
  obtain ⟨c3, c4, c5, c6⟩ := stA_cells hH1.out
  replace hpos := Lib.hid hpos
  go_wp2_with fail
  refine KS.out.mono ?_
  rintro e w3 ⟨rfl, hb3⟩
  clear KS c3 c4 c5 c6
  have hs3 := hb3.size
  have hH3 : Hid (w3.heap[w.heap.size]? = some (.cells (stA s f) 33 (0, 0))) := (hb3.block _ (by omega)).trans hH1.out
  have hR3 : Hid (w3.heap[w.heap.size + 1]? = some (.cells (jobA 0 (.slice none 0 0) (.slice none 0 0) false) 42 (0, 0))) := (hb3.block _ (by omega)).trans hR1.out
  have hB3 := hB1.trans (hb3.mono (by omega))
  have hown3 := own_below hownf hb3 (Nat.le_refl _)
  clear hH1 hR1 hB1 hownf hb3
  obtain ⟨a1, ha1⟩ : ∃ a1, spanA (frmS s 0) = a1 := ⟨_, rfl⟩
  obtain ⟨z1, hz1⟩ : ∃ z1, spanZ (frmS s 0) = z1 := ⟨_, rfl⟩
  rw [ha1, hz1]
  have htoo : tooS s 0 = touchL (s.lv 1) a1 z1 := by unfold tooS; rw [ha1, hz1]
  have KT := Lib.hid (touchP_calls (s.lv 1) a1 z1 (f 1) w3 ((HF.out 1 (by omega)).below hB3) (HFEW.out 1 (by omega)))
  rw [← htoo] at KT
  replace ha1 := Lib.hid ha1
  replace hz1 := Lib.hid hz1
  replace htoo := Lib.hid htoo
  obtain ⟨c3, c4, c5, c6⟩ := stA_cells hH3.out
  go_wp2_with fail
  refine KT.out.mono ?_
  rintro e w4 ⟨vt, rfl, hownt, hb4⟩
  clear KT c3 c4 c5 c6
  have hs4 := hb4.size
  have hlt0 : (tooS s 0).length ≤ 1000000 := by
    have h1 := HFEW.out 1 (by omega)
    rw [htoo.out]; exact Nat.le_trans (List.length_filter_le _ _) h1
  obtain ⟨A2, ct, hvt, _, _, _, _⟩ := Rd.of_own hownt
  subst hvt
  have hT4 : Hid (∀ g, (Value.slice A2 (tooS s 0).length ct).ownBlock = some g → g < w4.heap.size) := fun g hg => (hownt.lt g hg).2
  have hF4 : Hid (∀ g, ((.slice A1 (s.lv 0).length c1) : Value).ownBlock = some g → g < w4.heap.size) := fun g hg => Nat.lt_of_lt_of_le (hown3.lt g hg).2 hs4
  go_wp2_with fail
  -- the job
  obtain ⟨w5, hw5⟩ : ∃ w5, w5 = (w4.alloc (.cells (jobA 0 (.slice A1 (s.lv 0).length c1) (.slice A2 (tooS s 0).length ct) true) 42)).alloc (.cells #[(.slice A1 (s.lv 0).length c1), .slice A2 (tooS s 0).length ct] 30) := ⟨_, rfl⟩
  have hb5 : Below w4.heap.size w4 w5 := by rw [hw5]; exact ((Below.refl _ _).alloc (Nat.le_refl _) _).alloc (by simp) _
  have hJ5 : Hid (w5.heap[w4.heap.size]? = some (.cells (jobA 0 (.slice A1 (s.lv 0).length c1) (.slice A2 (tooS s 0).length ct) true) 42 (0, 0))) := by show _ = _; rw [hw5]; exact new_old (new_at rfl)
  have hP5 : w5.heap[w4.heap.size + 1]? = some (.cells #[(.slice A1 (s.lv 0).length c1), .slice A2 (tooS s 0).length ct] 30 (0, 0)) := by rw [hw5]; exact new_at (by simp)
  have hz5 : w5.heap.size = w4.heap.size + 2 := by rw [hw5]; simp
  have hb35 : Below w3.heap.size w3 w5 := hb4.trans (hb5.mono hs4)
  have hH5 : Hid (w5.heap[w.heap.size]? = some (.cells (stA s f) 33 (0, 0))) := (hb35.block _ (by omega)).trans hH3.out
  have hR5 : Hid (w5.heap[w.heap.size + 1]? = some (.cells (jobA 0 (.slice none 0 0) (.slice none 0 0) false) 42 (0, 0))) := (hb35.block _ (by omega)).trans hR3.out
  have hB5 := hB3.trans (hb35.mono (by omega))
  have hownf5 := own_below hown3 hb35 (Nat.le_refl _)
  have hownt5 := own_below hownt hb5 (show w.heap.size + 2 ≤ _ from by omega)
  have KN := Lib.hid (Concat_calls (frmS s 0) (tooS s 0) (.slice A1 (s.lv 0).length c1) (.slice A2 (tooS s 0).length ct) w5 (w4.heap.size + 1) (Rd.of_own hownf5) (Rd.of_own hownt5) (Nat.le_trans hfew (by omega)) hlt0 (by constructor <;> simp [World.cell?, hP5]))
  have hs5 : w4.heap.size + 2 ≤ w5.heap.size := by omega
  clear hP5 hb35 hb5 hb4 hown3 hownt hH3 hR3 hB3
  replace hJ5 := Lib.hid hJ5.out
  replace hownf5 := Lib.hid hownf5
  replace hownt5 := Lib.hid hownt5
  replace hB5 := Lib.hid hB5
  replace hz5 := Lib.hid hz5
  replace hs5 := Lib.hid hs5
  replace hlt0 := Lib.hid hlt0
  subst hw5
  refine KN.out.mono ?_
  rintro e w6 ⟨v6, rfl, hown6, hb6⟩
  clear KN
  have hs6 := hb6.size
  have hJ6 : Hid (w6.heap[w4.heap.size]? = some (.cells (jobA 0 (.slice A1 (s.lv 0).length c1) (.slice A2 (tooS s 0).length ct) true) 42 (0, 0))) := (hb6.block _ (by have := hs5.out; omega)).trans hJ5.out
  have hH6 : Hid (w6.heap[w.heap.size]? = some (.cells (stA s f) 33 (0, 0))) := (hb6.block _ (by have := hs5.out; omega)).trans hH5.out
  have hR6 : Hid (w6.heap[w.heap.size + 1]? = some (.cells (jobA 0 (.slice none 0 0) (.slice none 0 0) false) 42 (0, 0))) := (hb6.block _ (by have := hs5.out; omega)).trans hR5.out
  have hB6 := hB5.out.trans (hb6.mono (by have := hs5.out; omega))
  have hownf6 := own_below hownf5.out hb6 (Nat.le_refl _)
  have hownt6 := own_below hownt5.out hb6 (Nat.le_refl _)
  have hs6' : w4.heap.size + 2 ≤ w6.heap.size := by have := hs5.out; omega
  have KS2 := Lib.hid (span_calls (frmS s 0 ++ tooS s 0) v6 w6 (Rd.of_own hown6) (by have := hpos.out; simp; omega))
  clear hJ5 hH5 hR5 hB5 hownf5 hownt5 hb6 hown6 hs6 hs5 hz5
  go_wp2_with fail
  refine KS2.out.mono ?_
  rintro e w7 ⟨rfl, hb7⟩
  clear KS2
  have hs7 := hb7.size
  have hJ7 : Hid (w7.heap[w4.heap.size]? = some (.cells (jobA 0 (.slice A1 (s.lv 0).length c1) (.slice A2 (tooS s 0).length ct) true) 42 (0, 0))) := (hb7.block _ (by omega)).trans hJ6.out
  have hH7 : Hid (w7.heap[w.heap.size]? = some (.cells (stA s f) 33 (0, 0))) := (hb7.block _ (by omega)).trans hH6.out
  have hR7 : Hid (w7.heap[w.heap.size + 1]? = some (.cells (jobA 0 (.slice none 0 0) (.slice none 0 0) false) 42 (0, 0))) := (hb7.block _ (by omega)).trans hR6.out
  have hB7 := hB6.trans (hb7.mono (by omega))
  have hownf7 := Lib.hid (own_below hownf6 hb7 (Nat.le_refl _))
  have hownt7 := Lib.hid (own_below hownt6 hb7 (Nat.le_refl _))
  clear hJ6 hH6 hR6 hB6 hownf6 hownt6 hb7
  obtain ⟨a2, ha2⟩ : ∃ a2, spanA (frmS s 0 ++ tooS s 0) = a2 := ⟨_, rfl⟩
  obtain ⟨z2, hz2⟩ : ∃ z2, spanZ (frmS s 0 ++ tooS s 0) = z2 := ⟨_, rfl⟩
  rw [ha2, hz2]
  have HDB : Hid (∀ k, deepB s 0 k = ((touchL (s.lv k) a2 z2).length == 0)) := fun k => by unfold deepB; rw [ha2, hz2]
  replace ha2 := Lib.hid ha2
  replace hz2 := Lib.hid hz2
  go_wp2_with fail
  clear hs6' hs7
  go_loopw [52] (fun iv wr => ∃ (k : Nat) (z : Int), k ≤ 2 ∧ z = k ∧ iv = .int .i64 z ∧ Hid (wr.heap[w4.heap.size]? = some (.cells (jobA 0 (.slice A1 (s.lv 0).length c1) (.slice A2 (tooS s 0).length ct) (botS s 0 k)) 42 (0, 0))) ∧ Hid (wr.heap[w.heap.size]? = some (.cells (stA s f) 33 (0, 0))) ∧
      Hid (wr.heap[w.heap.size + 1]? = some (.cells (jobA 0 (.slice none 0 0) (.slice none 0 0) false) 42 (0, 0))) ∧ Hid (wr.ownsRow (w.heap.size + 2) 51 4 (.slice A1 (s.lv 0).length c1) (frmS s 0).length ((frmS s 0).flatMap metaC)) ∧ Hid (wr.ownsRow (w.heap.size + 2) 51 4 (.slice A2 (tooS s 0).length ct) (tooS s 0).length ((tooS s 0).flatMap metaC)) ∧ Hid (Below w.heap.size w wr))
    (fun iv _ => 2 - (intOf iv).toNat)
  case atStart => exact ⟨0, 0, by omega, rfl, rfl, hJ7, hH7, hR7, hownf7, hownt7, hB7⟩
  case round =>
    clear hJ7 hH7 hR7 hownf7 hownt7 hB7
    obtain ⟨k, z, hk, hzk, rfl, hJk, hHk, hRk, hfk, htk, hBk⟩ := hrel
    have hJlt := lt_of_at hJk.out
    have hs0 := hBk.out.size
    obtain ⟨⟨j0, j1, j2, j3⟩, jfr⟩ := job_cells hJk.out
    have jf3 := jfr 3
    clear jfr
    obtain ⟨c3, c4, c5, c6⟩ := stA_cells hHk.out
    by_cases hkK : k < 2
    · have hcs : (k = 0 ∧ z = 0) ∨ (k = 1 ∧ z = 1) := by omega
      rcases hcs with ⟨rfl, rfl⟩ | ⟨rfl, rfl⟩
      all_goals clear hzk hkK hk
      · have hbs : botS s 0 1 = (botS s 0 0 && deepB s 0 2) := rfl
        have hJset : ∀ W (q : Bool), Below wr.heap.size wr W → Hid ((W.setCell ⟨w4.heap.size, 3, none⟩ (.bool q)).heap[w4.heap.size]? = some (.cells (jobA 0 (.slice A1 (s.lv 0).length c1) (.slice A2 (tooS s 0).length ct) q) 42 (0, 0))) ∧ Hid ((W.setCell ⟨w4.heap.size, 3, none⟩ (.bool q)).heap[w.heap.size]? = some (.cells (stA s f) 33 (0, 0))) ∧
            Hid ((W.setCell ⟨w4.heap.size, 3, none⟩ (.bool q)).heap[w.heap.size + 1]? = some (.cells (jobA 0 (.slice none 0 0) (.slice none 0 0) false) 42 (0, 0))) ∧ Hid ((W.setCell ⟨w4.heap.size, 3, none⟩ (.bool q)).ownsRow (w.heap.size + 2) 51 4 (.slice A1 (s.lv 0).length c1) (frmS s 0).length ((frmS s 0).flatMap metaC)) ∧ Hid ((W.setCell ⟨w4.heap.size, 3, none⟩ (.bool q)).ownsRow (w.heap.size + 2) 51 4 (.slice A2 (tooS s 0).length ct) (tooS s 0).length ((tooS s 0).flatMap metaC)) ∧ Hid (Below w.heap.size w (W.setCell ⟨w4.heap.size, 3, none⟩ (.bool q))) := fun W q h => by
          have hne : ∀ g, g ≠ w4.heap.size → (W.setCell ⟨w4.heap.size, 3, none⟩ (.bool q)).heap[g]? = W.heap[g]? := fun g hg => Below.heap_setCell W _ _ g hg
          have hfW := own_below hfk.out h (Nat.le_refl _)
          have htW := own_below htk.out h (Nat.le_refl _)
          refine ⟨job_set q ((h.block _ hJlt).trans hJk.out), (hne _ (by omega)).trans ((h.block _ (by omega)).trans hHk.out), (hne _ (by omega)).trans ((h.block _ (by omega)).trans hRk.out), ?_, ?_, (hBk.out.trans (h.mono hs0)).setCell (by show _ ≤ w4.heap.size; omega) _⟩
          · exact own_heap hfW (fun g hg => by
              rcases Nat.lt_or_ge g w4.heap.size with hlt | hge
              · exact .inl (hne g (by omega))
              · exact .inr (fun e => by have := hF4.out g e; omega))
          · exact own_heap htW (fun g hg => by
              rcases Nat.lt_or_ge g w4.heap.size with hlt | hge
              · exact .inl (hne g (by omega))
              · exact .inr (fun e => by have := hT4.out g e; omega))
        replace hJset := Lib.hid hJset
        have hdb := HDB.out 2
        obtain ⟨bo, hbo⟩ : ∃ bo, botS s 0 0 = bo := ⟨_, rfl⟩
        rw [hbo] at j3 hbs
        replace hbo := Lib.hid hbo
        cases bo
        · have hb2 : Hid (botS s 0 1 = false) := by show _ = _; rw [hbs]; rfl
          clear hbs hdb
          go_wp2_with fail
          go_roundw
          case rel =>
            have hh := hJset.out wr false (Below.refl _ _)
            exact ⟨1, 1, by omega, rfl, rfl, by rw [hb2.out]; exact hh.1, hh.2.1, hh.2.2.1, hh.2.2.2.1, hh.2.2.2.2.1, hh.2.2.2.2.2⟩
          case measure => simp [intOf]
        · have KT2 := Lib.hid (touchP_calls (s.lv 2) a2 z2 (f 2) wr ((HF.out 2 (by omega)).below hBk.out) (HFEW.out 2 (by omega)))
          obtain ⟨tl, htl⟩ : ∃ tl, touchL (s.lv 2) a2 z2 = tl := ⟨_, rfl⟩
          rw [htl] at KT2 hdb
          rw [hdb] at hbs
          clear htl
          go_wp2_with fail
          refine KT2.out.mono ?_
          rintro e w8 ⟨v8, rfl, hown8, hb8⟩
          clear KT2 c3 c4 c5 c6 j0 j1 j2 j3 jf3
          obtain ⟨A8, c8, hv8, _, _, _, _⟩ := Rd.of_own hown8
          subst hv8
          have hJ8 := (hb8.block _ hJlt).trans hJk.out
          obtain ⟨⟨j0, j1, j2, j3⟩, jfr⟩ := job_cells hJ8
          have jf3 := jfr 3
          clear jfr hJ8
          rw [hbo.out] at j3
          clear hown8
          obtain ⟨bl, hbl⟩ : ∃ bl, ((tl.length : Int) == 0) = bl := ⟨_, rfl⟩
          have hb2 : Hid (botS s 0 1 = bl) := by
            show _ = _
            rw [hbs, ← hbl]
            rw [Bool.eq_iff_iff]; simp
          clear hbs hdb
          replace hb8 := Lib.hid hb8
          go_wp2_with fail
          go_roundw
          case rel =>
            have hh := hJset.out w8 bl hb8.out
            exact ⟨1, 1, by omega, rfl, rfl, by rw [hb2.out]; exact hh.1, hh.2.1, hh.2.2.1, hh.2.2.2.1, hh.2.2.2.2.1, hh.2.2.2.2.2⟩
          case measure => simp [intOf]
      · have hbs : botS s 0 2 = (botS s 0 1 && deepB s 0 3) := rfl
        have hJset : ∀ W (q : Bool), Below wr.heap.size wr W → Hid ((W.setCell ⟨w4.heap.size, 3, none⟩ (.bool q)).heap[w4.heap.size]? = some (.cells (jobA 0 (.slice A1 (s.lv 0).length c1) (.slice A2 (tooS s 0).length ct) q) 42 (0, 0))) ∧ Hid ((W.setCell ⟨w4.heap.size, 3, none⟩ (.bool q)).heap[w.heap.size]? = some (.cells (stA s f) 33 (0, 0))) ∧
            Hid ((W.setCell ⟨w4.heap.size, 3, none⟩ (.bool q)).heap[w.heap.size + 1]? = some (.cells (jobA 0 (.slice none 0 0) (.slice none 0 0) false) 42 (0, 0))) ∧ Hid ((W.setCell ⟨w4.heap.size, 3, none⟩ (.bool q)).ownsRow (w.heap.size + 2) 51 4 (.slice A1 (s.lv 0).length c1) (frmS s 0).length ((frmS s 0).flatMap metaC)) ∧ Hid ((W.setCell ⟨w4.heap.size, 3, none⟩ (.bool q)).ownsRow (w.heap.size + 2) 51 4 (.slice A2 (tooS s 0).length ct) (tooS s 0).length ((tooS s 0).flatMap metaC)) ∧ Hid (Below w.heap.size w (W.setCell ⟨w4.heap.size, 3, none⟩ (.bool q))) := fun W q h => by
          have hne : ∀ g, g ≠ w4.heap.size → (W.setCell ⟨w4.heap.size, 3, none⟩ (.bool q)).heap[g]? = W.heap[g]? := fun g hg => Below.heap_setCell W _ _ g hg
          have hfW := own_below hfk.out h (Nat.le_refl _)
          have htW := own_below htk.out h (Nat.le_refl _)
          refine ⟨job_set q ((h.block _ hJlt).trans hJk.out), (hne _ (by omega)).trans ((h.block _ (by omega)).trans hHk.out), (hne _ (by omega)).trans ((h.block _ (by omega)).trans hRk.out), ?_, ?_, (hBk.out.trans (h.mono hs0)).setCell (by show _ ≤ w4.heap.size; omega) _⟩
          · exact own_heap hfW (fun g hg => by
              rcases Nat.lt_or_ge g w4.heap.size with hlt | hge
              · exact .inl (hne g (by omega))
              · exact .inr (fun e => by have := hF4.out g e; omega))
          · exact own_heap htW (fun g hg => by
              rcases Nat.lt_or_ge g w4.heap.size with hlt | hge
              · exact .inl (hne g (by omega))
              · exact .inr (fun e => by have := hT4.out g e; omega))
        replace hJset := Lib.hid hJset
        have hdb := HDB.out 3
        obtain ⟨bo, hbo⟩ : ∃ bo, botS s 0 1 = bo := ⟨_, rfl⟩
        rw [hbo] at j3 hbs
        replace hbo := Lib.hid hbo
        cases bo
        · have hb2 : Hid (botS s 0 2 = false) := by show _ = _; rw [hbs]; rfl
          clear hbs hdb
          go_wp2_with fail
          go_roundw
          case rel =>
            have hh := hJset.out wr false (Below.refl _ _)
            exact ⟨2, 2, by omega, rfl, rfl, by rw [hb2.out]; exact hh.1, hh.2.1, hh.2.2.1, hh.2.2.2.1, hh.2.2.2.2.1, hh.2.2.2.2.2⟩
          case measure => simp [intOf]
        · have KT2 := Lib.hid (touchP_calls (s.lv 3) a2 z2 (f 3) wr ((HF.out 3 (by omega)).below hBk.out) (HFEW.out 3 (by omega)))
          obtain ⟨tl, htl⟩ : ∃ tl, touchL (s.lv 3) a2 z2 = tl := ⟨_, rfl⟩
          rw [htl] at KT2 hdb
          rw [hdb] at hbs
          clear htl
          go_wp2_with fail
          refine KT2.out.mono ?_
          rintro e w8 ⟨v8, rfl, hown8, hb8⟩
          clear KT2 c3 c4 c5 c6 j0 j1 j2 j3 jf3
          obtain ⟨A8, c8, hv8, _, _, _, _⟩ := Rd.of_own hown8
          subst hv8
          have hJ8 := (hb8.block _ hJlt).trans hJk.out
          obtain ⟨⟨j0, j1, j2, j3⟩, jfr⟩ := job_cells hJ8
          have jf3 := jfr 3
          clear jfr hJ8
          rw [hbo.out] at j3
          clear hown8
          obtain ⟨bl, hbl⟩ : ∃ bl, ((tl.length : Int) == 0) = bl := ⟨_, rfl⟩
          have hb2 : Hid (botS s 0 2 = bl) := by
            show _ = _
            rw [hbs, ← hbl]
            rw [Bool.eq_iff_iff]; simp
          clear hbs hdb
          replace hb8 := Lib.hid hb8
          go_wp2_with fail
          go_roundw
          case rel =>
            have hh := hJset.out w8 bl hb8.out
            exact ⟨2, 2, by omega, rfl, rfl, by rw [hb2.out]; exact hh.1, hh.2.1, hh.2.2.1, hh.2.2.2.1, hh.2.2.2.2.1, hh.2.2.2.2.2⟩
          case measure => simp [intOf]
    · obtain rfl : k = 2 := by omega
      obtain rfl : z = 2 := by omega
      clear hzk hkK hk
      obtain ⟨⟨p0, p1, p2, p3⟩, pfr⟩ := job_cells hRk.out
      have pf0 := pfr 0
      have pf1 := pfr 1
      have pf2 := pfr 2
      have pf3 := pfr 3
      clear pfr
      obtain ⟨bo, hbo⟩ : ∃ bo, botS s 0 2 = bo := ⟨_, rfl⟩
      rw [hbo] at j3
      replace hbo := Lib.hid hbo
      clear c3 c4 c5 c6
      go_wp2_with fail
      refine bodyPost_ret (v := .agg #[.int .i64 0, (.slice A1 (s.lv 0).length c1), .slice A2 (tooS s 0).length ct, .bool bo]) ?_ rfl ?_
      · simp [results, Try.results56, go_sem, *]
      · refine ⟨(.slice A1 (s.lv 0).length c1), .slice A2 (tooS s 0).length ct, by rw [hJ.out.1, hJ.out.2.2.2, hbo.out], ?_, ?_, below_set4 hBk.out (by omega)⟩
        · rw [hJ.out.2.1]
          exact own_below (own_heap hfk.out (fun g hg => .inl (set4_far (by omega)))) (Below.refl _ _) (by omega)
        · rw [hJ.out.2.2.1]
          exact own_below (own_heap htk.out (fun g hg => .inl (set4_far (by omega)))) (Below.refl _ _) (by omega)

set_option maxRecDepth 100000 in
set_option maxHeartbeats 2000000 in
theorem job1_calls (s : StD) (f : Nat → Value) (w : World) (hf : RdLv w f s) (g : Gd s 30) (hne : 0 < (s.lv 1).length) :
    Calls Try.prog 56 #[.agg #[.int .i64 s.log, .int .i64 s.next, .int .i64 s.seq, f 0, f 1, f 2, f 3], .int .i64 1] w (JobPost w (jobS s 1)) := by
  have hfew := g.few 1 (by omega)
  have hbd : ∀ m ∈ s.lv 1, 1 ≤ m.file ∧ m.file ≤ 999999 := fun m hm => by have := tableB_bd (g.good _ _ hm); omega
  have HFEW := Lib.hid (fun k hk => Nat.le_trans (g.few k hk) (show 30 ≤ 1000000 by omega))
  have HF := Lib.hid hf
  have KC := Lib.hid (fun W (h : Below w.heap.size w W) => Clone_calls (s.lv 1) (f 1) W ((hf 1 (by omega)).below h) (by omega))
  have hJ : Hid ((jobS s 1).level = 1 ∧ (jobS s 1).frm = frmS s 1 ∧ (jobS s 1).too = tooS s 1 ∧ (jobS s 1).bottom = botS s 1 1) := ⟨rfl, rfl, rfl, rfl⟩
  obtain ⟨j, hj⟩ : ∃ j, jobS s 1 = j := ⟨_, rfl⟩
  rw [hj] at hJ ⊢
  clear hj hf
  replace hbd := Lib.hid hbd
  go_enter Try.func56, Try.ntmps56
  go_wp2_with fail
  refine (KC.out _ (((Below.refl _ _).alloc (Nat.le_refl _) _).alloc (by simp) _)).mono ?_
  rintro e w1 ⟨v1, rfl, hown1, hb1⟩
  have hs1 := hb1.size
  simp only [World.size_alloc] at hs1
  have hH1 : Hid (w1.heap[w.heap.size]? = some (.cells (stA s f) 33 (0, 0))) := (hb1.block _ (by simp; omega)).trans (new_old (new_at rfl))
  have hR1 : Hid (w1.heap[w.heap.size + 1]? = some (.cells (jobA 0 (.slice none 0 0) (.slice none 0 0) false) 42 (0, 0))) := (hb1.block _ (by simp)).trans (new_at (by simp))
  have hB1 : Below w.heap.size w w1 := (((Below.refl _ _).alloc (Nat.le_refl _) _).alloc (by simp) _).trans (hb1.mono (by simp; omega))
  replace hown1 : w1.ownsRow (w.heap.size + 2) 51 4 v1 (s.lv 1).length ((s.lv 1).flatMap metaC) := own_below hown1 (Below.refl _ _) (by simp)
  clear hb1 KC
  have KM := Lib.hid (MinFunc_calls (s.lv 1) v1 w1 (Rd.of_own hown1) hne hbd.out)
  go_wp2_with fail
  refine KM.out.mono ?_
  rintro e w2' ⟨rfl, hb2⟩
  have hs2 := hb2.size
  obtain ⟨y, hy⟩ : ∃ y, leastM (s.lv 1) = y := ⟨_, rfl⟩
  rw [hy]
  have hfr : frmS s 1 = [y] := by unfold frmS; rw [if_neg (by omega), hy]
  replace hfr := Lib.hid hfr
  clear hy KM hown1
  go_wp2_with fail
  obtain ⟨w2, hw2⟩ : ∃ w2, w2 = w2'.alloc (.cells (metaVA y) 51) := ⟨_, rfl⟩
  have hownf : w2.ownsRow (w.heap.size + 2) 51 4 (.slice (some ⟨w2'.heap.size, 0, none⟩) 1 1) (frmS s 1).length ((frmS s 1).flatMap metaC) := by
    rw [hfr.out, hw2]
    exact ⟨by simp [metaC], .inr ⟨w2'.heap.size, 1, metaVA y, rfl, by omega, new_at rfl, Nat.le_refl _, by unfold maxLen; omega, rfl, by simp [metaVA, metaC]⟩⟩
  have hb2a : Below w1.heap.size w1 w2 := by rw [hw2]; exact hb2.alloc hs2 _
  replace hH1 : Hid (w2.heap[w.heap.size]? = some (.cells (stA s f) 33 (0, 0))) := (hb2a.block _ (by omega)).trans hH1.out
  replace hR1 : Hid (w2.heap[w.heap.size + 1]? = some (.cells (jobA 0 (.slice none 0 0) (.slice none 0 0) false) 42 (0, 0))) := (hb2a.block _ (by omega)).trans hR1.out
  replace hB1 := hB1.trans (hb2a.mono (by omega))
  have hs1' := hb2a.size
  replace hs1 : w.heap.size + 2 ≤ w2.heap.size := by omega
  have hlen1 : (frmS s 1).length = 1 := by rw [hfr.out]; rfl
  clear hb2 hs2 hb2a hs1'
  have hshow : (.slice (some ⟨w2'.heap.size, 0, none⟩) 1 1 : Value) = .slice (some ⟨w2'.heap.size, 0, none⟩) (frmS s 1).length 1 := by rw [hlen1]
  clear hshow
  replace hs1 := Lib.hid hs1
  subst hw2
  have hs1 := hs1.out
  have hpos : 0 < (frmS s 1).length := by omega
  have KS := Lib.hid (span_calls (frmS s 1) (.slice (some ⟨w2'.heap.size, 0, none⟩) 1 1) _ (Rd.of_own hownf) hpos)
  obtain ⟨c3, c4, c5, c6⟩ := stA_cells hH1.out
  replace hpos := Lib.hid hpos
  refine KS.out.mono ?_
  rintro e w3 ⟨rfl, hb3⟩
  clear KS c3 c4 c5 c6
  have hs3 := hb3.size
  have hH3 : Hid (w3.heap[w.heap.size]? = some (.cells (stA s f) 33 (0, 0))) := (hb3.block _ (by omega)).trans hH1.out
  have hR3 : Hid (w3.heap[w.heap.size + 1]? = some (.cells (jobA 0 (.slice none 0 0) (.slice none 0 0) false) 42 (0, 0))) := (hb3.block _ (by omega)).trans hR1.out
  have hB3 := hB1.trans (hb3.mono (by omega))
  have hown3 := own_below hownf hb3 (Nat.le_refl _)
  clear hH1 hR1 hB1 hownf hb3
  obtain ⟨a1, ha1⟩ : ∃ a1, spanA (frmS s 1) = a1 := ⟨_, rfl⟩
  obtain ⟨z1, hz1⟩ : ∃ z1, spanZ (frmS s 1) = z1 := ⟨_, rfl⟩
  rw [ha1, hz1]
  have htoo : tooS s 1 = touchL (s.lv 2) a1 z1 := by unfold tooS; rw [ha1, hz1]
  have KT := Lib.hid (touchP_calls (s.lv 2) a1 z1 (f 2) w3 ((HF.out 2 (by omega)).below hB3) (HFEW.out 2 (by omega)))
  rw [← htoo] at KT
  replace ha1 := Lib.hid ha1
  replace hz1 := Lib.hid hz1
  replace htoo := Lib.hid htoo
  obtain ⟨c3, c4, c5, c6⟩ := stA_cells hH3.out
  go_wp2_with fail
  refine KT.out.mono ?_
  rintro e w4 ⟨vt, rfl, hownt, hb4⟩
  clear KT c3 c4 c5 c6
  have hs4 := hb4.size
  have hlt0 : (tooS s 1).length ≤ 1000000 := by
    have h1 := HFEW.out 2 (by omega)
    rw [htoo.out]; exact Nat.le_trans (List.length_filter_le _ _) h1
  obtain ⟨A2, ct, hvt, _, _, _, _⟩ := Rd.of_own hownt
  subst hvt
  have hT4 : Hid (∀ g, (Value.slice A2 (tooS s 1).length ct).ownBlock = some g → g < w4.heap.size) := fun g hg => (hownt.lt g hg).2
  have hF4 : Hid (∀ g, ((.slice (some ⟨w2'.heap.size, 0, none⟩) 1 1) : Value).ownBlock = some g → g < w4.heap.size) := fun g hg => Nat.lt_of_lt_of_le (hown3.lt g hg).2 hs4
  go_wp2_with fail
  -- the job
  obtain ⟨w5, hw5⟩ : ∃ w5, w5 = (w4.alloc (.cells (jobA 1 (.slice (some ⟨w2'.heap.size, 0, none⟩) 1 1) (.slice A2 (tooS s 1).length ct) true) 42)).alloc (.cells #[(.slice (some ⟨w2'.heap.size, 0, none⟩) 1 1), .slice A2 (tooS s 1).length ct] 30) := ⟨_, rfl⟩
  have hb5 : Below w4.heap.size w4 w5 := by rw [hw5]; exact ((Below.refl _ _).alloc (Nat.le_refl _) _).alloc (by simp) _
  have hJ5 : Hid (w5.heap[w4.heap.size]? = some (.cells (jobA 1 (.slice (some ⟨w2'.heap.size, 0, none⟩) 1 1) (.slice A2 (tooS s 1).length ct) true) 42 (0, 0))) := by show _ = _; rw [hw5]; exact new_old (new_at rfl)
  have hP5 : w5.heap[w4.heap.size + 1]? = some (.cells #[(.slice (some ⟨w2'.heap.size, 0, none⟩) 1 1), .slice A2 (tooS s 1).length ct] 30 (0, 0)) := by rw [hw5]; exact new_at (by simp)
  have hz5 : w5.heap.size = w4.heap.size + 2 := by rw [hw5]; simp
  have hb35 : Below w3.heap.size w3 w5 := hb4.trans (hb5.mono hs4)
  have hH5 : Hid (w5.heap[w.heap.size]? = some (.cells (stA s f) 33 (0, 0))) := (hb35.block _ (by omega)).trans hH3.out
  have hR5 : Hid (w5.heap[w.heap.size + 1]? = some (.cells (jobA 0 (.slice none 0 0) (.slice none 0 0) false) 42 (0, 0))) := (hb35.block _ (by omega)).trans hR3.out
  have hB5 := hB3.trans (hb35.mono (by omega))
  have hownf5 := own_below hown3 hb35 (Nat.le_refl _)
  have hownt5 := own_below hownt hb5 (show w.heap.size + 2 ≤ _ from by omega)
  have KN := Lib.hid (Concat_calls (frmS s 1) (tooS s 1) (.slice (some ⟨w2'.heap.size, 0, none⟩) 1 1) (.slice A2 (tooS s 1).length ct) w5 (w4.heap.size + 1) (Rd.of_own hownf5) (Rd.of_own hownt5) (by omega) hlt0 (by constructor <;> simp [World.cell?, hP5]))
  have hs5 : w4.heap.size + 2 ≤ w5.heap.size := by omega
  clear hP5 hb35 hb5 hb4 hown3 hownt hH3 hR3 hB3
  replace hJ5 := Lib.hid hJ5.out
  replace hownf5 := Lib.hid hownf5
  replace hownt5 := Lib.hid hownt5
  replace hB5 := Lib.hid hB5
  replace hz5 := Lib.hid hz5
  replace hs5 := Lib.hid hs5
  replace hlt0 := Lib.hid hlt0
  subst hw5
  refine KN.out.mono ?_
  rintro e w6 ⟨v6, rfl, hown6, hb6⟩
  clear KN
  have hs6 := hb6.size
  have hJ6 : Hid (w6.heap[w4.heap.size]? = some (.cells (jobA 1 (.slice (some ⟨w2'.heap.size, 0, none⟩) 1 1) (.slice A2 (tooS s 1).length ct) true) 42 (0, 0))) := (hb6.block _ (by have := hs5.out; omega)).trans hJ5.out
  have hH6 : Hid (w6.heap[w.heap.size]? = some (.cells (stA s f) 33 (0, 0))) := (hb6.block _ (by have := hs5.out; omega)).trans hH5.out
  have hR6 : Hid (w6.heap[w.heap.size + 1]? = some (.cells (jobA 0 (.slice none 0 0) (.slice none 0 0) false) 42 (0, 0))) := (hb6.block _ (by have := hs5.out; omega)).trans hR5.out
  have hB6 := hB5.out.trans (hb6.mono (by have := hs5.out; omega))
  have hownf6 := own_below hownf5.out hb6 (Nat.le_refl _)
  have hownt6 := own_below hownt5.out hb6 (Nat.le_refl _)
  have hs6' : w4.heap.size + 2 ≤ w6.heap.size := by have := hs5.out; omega
  have KS2 := Lib.hid (span_calls (frmS s 1 ++ tooS s 1) v6 w6 (Rd.of_own hown6) (by have := hpos.out; simp; omega))
  clear hJ5 hH5 hR5 hB5 hownf5 hownt5 hb6 hown6 hs6 hs5 hz5
  go_wp2_with fail
  refine KS2.out.mono ?_
  rintro e w7 ⟨rfl, hb7⟩
  clear KS2
  have hs7 := hb7.size
  have hJ7 : Hid (w7.heap[w4.heap.size]? = some (.cells (jobA 1 (.slice (some ⟨w2'.heap.size, 0, none⟩) 1 1) (.slice A2 (tooS s 1).length ct) true) 42 (0, 0))) := (hb7.block _ (by omega)).trans hJ6.out
  have hH7 : Hid (w7.heap[w.heap.size]? = some (.cells (stA s f) 33 (0, 0))) := (hb7.block _ (by omega)).trans hH6.out
  have hR7 : Hid (w7.heap[w.heap.size + 1]? = some (.cells (jobA 0 (.slice none 0 0) (.slice none 0 0) false) 42 (0, 0))) := (hb7.block _ (by omega)).trans hR6.out
  have hB7 := hB6.trans (hb7.mono (by omega))
  have hownf7 := Lib.hid (own_below hownf6 hb7 (Nat.le_refl _))
  have hownt7 := Lib.hid (own_below hownt6 hb7 (Nat.le_refl _))
  clear hJ6 hH6 hR6 hB6 hownf6 hownt6 hb7
  obtain ⟨a2, ha2⟩ : ∃ a2, spanA (frmS s 1 ++ tooS s 1) = a2 := ⟨_, rfl⟩
  obtain ⟨z2, hz2⟩ : ∃ z2, spanZ (frmS s 1 ++ tooS s 1) = z2 := ⟨_, rfl⟩
  rw [ha2, hz2]
  have HDB : Hid (∀ k, deepB s 1 k = ((touchL (s.lv k) a2 z2).length == 0)) := fun k => by unfold deepB; rw [ha2, hz2]
  replace ha2 := Lib.hid ha2
  replace hz2 := Lib.hid hz2
  go_wp2_with fail
  clear hs6' hs7
  go_loopw [52] (fun iv wr => ∃ (k : Nat) (z : Int), k ≤ 1 ∧ z = k ∧ iv = .int .i64 z ∧ Hid (wr.heap[w4.heap.size]? = some (.cells (jobA 1 (.slice (some ⟨w2'.heap.size, 0, none⟩) 1 1) (.slice A2 (tooS s 1).length ct) (botS s 1 k)) 42 (0, 0))) ∧ Hid (wr.heap[w.heap.size]? = some (.cells (stA s f) 33 (0, 0))) ∧
      Hid (wr.heap[w.heap.size + 1]? = some (.cells (jobA 0 (.slice none 0 0) (.slice none 0 0) false) 42 (0, 0))) ∧ Hid (wr.ownsRow (w.heap.size + 2) 51 4 (.slice (some ⟨w2'.heap.size, 0, none⟩) 1 1) (frmS s 1).length ((frmS s 1).flatMap metaC)) ∧ Hid (wr.ownsRow (w.heap.size + 2) 51 4 (.slice A2 (tooS s 1).length ct) (tooS s 1).length ((tooS s 1).flatMap metaC)) ∧ Hid (Below w.heap.size w wr))
    (fun iv _ => 1 - (intOf iv).toNat)
  case atStart => exact ⟨0, 0, by omega, rfl, rfl, hJ7, hH7, hR7, hownf7, hownt7, hB7⟩
  case round =>
    clear hJ7 hH7 hR7 hownf7 hownt7 hB7
    obtain ⟨k, z, hk, hzk, rfl, hJk, hHk, hRk, hfk, htk, hBk⟩ := hrel
    have hJlt := lt_of_at hJk.out
    have hs0 := hBk.out.size
    obtain ⟨⟨j0, j1, j2, j3⟩, jfr⟩ := job_cells hJk.out
    have jf3 := jfr 3
    clear jfr
    obtain ⟨c3, c4, c5, c6⟩ := stA_cells hHk.out
    by_cases hkK : k < 1
    · obtain rfl : k = 0 := by omega
      obtain rfl : z = 0 := by omega
      clear hzk hkK hk
      have hbs : botS s 1 1 = (botS s 1 0 && deepB s 1 3) := rfl
      have hJset : ∀ W (q : Bool), Below wr.heap.size wr W → Hid ((W.setCell ⟨w4.heap.size, 3, none⟩ (.bool q)).heap[w4.heap.size]? = some (.cells (jobA 1 (.slice (some ⟨w2'.heap.size, 0, none⟩) 1 1) (.slice A2 (tooS s 1).length ct) q) 42 (0, 0))) ∧ Hid ((W.setCell ⟨w4.heap.size, 3, none⟩ (.bool q)).heap[w.heap.size]? = some (.cells (stA s f) 33 (0, 0))) ∧
          Hid ((W.setCell ⟨w4.heap.size, 3, none⟩ (.bool q)).heap[w.heap.size + 1]? = some (.cells (jobA 0 (.slice none 0 0) (.slice none 0 0) false) 42 (0, 0))) ∧ Hid ((W.setCell ⟨w4.heap.size, 3, none⟩ (.bool q)).ownsRow (w.heap.size + 2) 51 4 (.slice (some ⟨w2'.heap.size, 0, none⟩) 1 1) (frmS s 1).length ((frmS s 1).flatMap metaC)) ∧ Hid ((W.setCell ⟨w4.heap.size, 3, none⟩ (.bool q)).ownsRow (w.heap.size + 2) 51 4 (.slice A2 (tooS s 1).length ct) (tooS s 1).length ((tooS s 1).flatMap metaC)) ∧ Hid (Below w.heap.size w (W.setCell ⟨w4.heap.size, 3, none⟩ (.bool q))) := fun W q h => by
        have hne : ∀ g, g ≠ w4.heap.size → (W.setCell ⟨w4.heap.size, 3, none⟩ (.bool q)).heap[g]? = W.heap[g]? := fun g hg => Below.heap_setCell W _ _ g hg
        have hfW := own_below hfk.out h (Nat.le_refl _)
        have htW := own_below htk.out h (Nat.le_refl _)
        refine ⟨job_set q ((h.block _ hJlt).trans hJk.out), (hne _ (by omega)).trans ((h.block _ (by omega)).trans hHk.out), (hne _ (by omega)).trans ((h.block _ (by omega)).trans hRk.out), ?_, ?_, (hBk.out.trans (h.mono hs0)).setCell (by show _ ≤ w4.heap.size; omega) _⟩
        · exact own_heap hfW (fun g hg => by
            rcases Nat.lt_or_ge g w4.heap.size with hlt | hge
            · exact .inl (hne g (by omega))
            · exact .inr (fun e => by have := hF4.out g e; omega))
        · exact own_heap htW (fun g hg => by
            rcases Nat.lt_or_ge g w4.heap.size with hlt | hge
            · exact .inl (hne g (by omega))
            · exact .inr (fun e => by have := hT4.out g e; omega))
      replace hJset := Lib.hid hJset
      have hdb := HDB.out 3
      obtain ⟨bo, hbo⟩ : ∃ bo, botS s 1 0 = bo := ⟨_, rfl⟩
      rw [hbo] at j3 hbs
      replace hbo := Lib.hid hbo
      cases bo
      · have hb2 : Hid (botS s 1 1 = false) := by show _ = _; rw [hbs]; rfl
        clear hbs hdb
        go_wp2_with fail
        go_roundw
        case rel =>
          have hh := hJset.out wr false (Below.refl _ _)
          exact ⟨1, 1, by omega, rfl, rfl, by rw [hb2.out]; exact hh.1, hh.2.1, hh.2.2.1, hh.2.2.2.1, hh.2.2.2.2.1, hh.2.2.2.2.2⟩
        case measure => simp [intOf]
      · have KT2 := Lib.hid (touchP_calls (s.lv 3) a2 z2 (f 3) wr ((HF.out 3 (by omega)).below hBk.out) (HFEW.out 3 (by omega)))
        obtain ⟨tl, htl⟩ : ∃ tl, touchL (s.lv 3) a2 z2 = tl := ⟨_, rfl⟩
        rw [htl] at KT2 hdb
        rw [hdb] at hbs
        clear htl
        go_wp2_with fail
        refine KT2.out.mono ?_
        rintro e w8 ⟨v8, rfl, hown8, hb8⟩
        clear KT2 c3 c4 c5 c6 j0 j1 j2 j3 jf3
        obtain ⟨A8, c8, hv8, _, _, _, _⟩ := Rd.of_own hown8
        subst hv8
        have hJ8 := (hb8.block _ hJlt).trans hJk.out
        obtain ⟨⟨j0, j1, j2, j3⟩, jfr⟩ := job_cells hJ8
        have jf3 := jfr 3
        clear jfr hJ8
        rw [hbo.out] at j3
        clear hown8
        obtain ⟨bl, hbl⟩ : ∃ bl, ((tl.length : Int) == 0) = bl := ⟨_, rfl⟩
        have hb2 : Hid (botS s 1 1 = bl) := by
          show _ = _
          rw [hbs, ← hbl]
          rw [Bool.eq_iff_iff]; simp
        clear hbs hdb
        replace hb8 := Lib.hid hb8
        go_wp2_with fail
        go_roundw
        case rel =>
          have hh := hJset.out w8 bl hb8.out
          exact ⟨1, 1, by omega, rfl, rfl, by rw [hb2.out]; exact hh.1, hh.2.1, hh.2.2.1, hh.2.2.2.1, hh.2.2.2.2.1, hh.2.2.2.2.2⟩
        case measure => simp [intOf]
    · obtain rfl : k = 1 := by omega
      obtain rfl : z = 1 := by omega
      clear hzk hkK hk
      obtain ⟨⟨p0, p1, p2, p3⟩, pfr⟩ := job_cells hRk.out
      have pf0 := pfr 0
      have pf1 := pfr 1
      have pf2 := pfr 2
      have pf3 := pfr 3
      clear pfr
      obtain ⟨bo, hbo⟩ : ∃ bo, botS s 1 1 = bo := ⟨_, rfl⟩
      rw [hbo] at j3
      replace hbo := Lib.hid hbo
      clear c3 c4 c5 c6
      go_wp2_with fail
      refine bodyPost_ret (v := .agg #[.int .i64 1, (.slice (some ⟨w2'.heap.size, 0, none⟩) 1 1), .slice A2 (tooS s 1).length ct, .bool bo]) ?_ rfl ?_
      · simp [results, Try.results56, go_sem, *]
      · refine ⟨(.slice (some ⟨w2'.heap.size, 0, none⟩) 1 1), .slice A2 (tooS s 1).length ct, by rw [hJ.out.1, hJ.out.2.2.2, hbo.out], ?_, ?_, below_set4 hBk.out (by omega)⟩
        · rw [hJ.out.2.1]
          exact own_below (own_heap hfk.out (fun g hg => .inl (set4_far (by omega)))) (Below.refl _ _) (by omega)
        · rw [hJ.out.2.2.1]
          exact own_below (own_heap htk.out (fun g hg => .inl (set4_far (by omega)))) (Below.refl _ _) (by omega)

set_option maxRecDepth 100000 in
set_option maxHeartbeats 2000000 in
theorem job2_calls (s : StD) (f : Nat → Value) (w : World) (hf : RdLv w f s) (g : Gd s 30) (hne : 0 < (s.lv 2).length) :
    Calls Try.prog 56 #[.agg #[.int .i64 s.log, .int .i64 s.next, .int .i64 s.seq, f 0, f 1, f 2, f 3], .int .i64 2] w (JobPost w (jobS s 2)) := by
  have hfew := g.few 2 (by omega)
  have hbd : ∀ m ∈ s.lv 2, 1 ≤ m.file ∧ m.file ≤ 999999 := fun m hm => by have := tableB_bd (g.good _ _ hm); omega
  have HFEW := Lib.hid (fun k hk => Nat.le_trans (g.few k hk) (show 30 ≤ 1000000 by omega))
  have HF := Lib.hid hf
  have KC := Lib.hid (fun W (h : Below w.heap.size w W) => Clone_calls (s.lv 2) (f 2) W ((hf 2 (by omega)).below h) (by omega))
  have hJ : Hid ((jobS s 2).level = 2 ∧ (jobS s 2).frm = frmS s 2 ∧ (jobS s 2).too = tooS s 2 ∧ (jobS s 2).bottom = botS s 2 0) := ⟨rfl, rfl, rfl, rfl⟩
  obtain ⟨j, hj⟩ : ∃ j, jobS s 2 = j := ⟨_, rfl⟩
  rw [hj] at hJ ⊢
  clear hj hf
  replace hbd := Lib.hid hbd
  go_enter Try.func56, Try.ntmps56
  go_wp2_with fail
  refine (KC.out _ (((Below.refl _ _).alloc (Nat.le_refl _) _).alloc (by simp) _)).mono ?_
  rintro e w1 ⟨v1, rfl, hown1, hb1⟩
  have hs1 := hb1.size
  simp only [World.size_alloc] at hs1
  have hH1 : Hid (w1.heap[w.heap.size]? = some (.cells (stA s f) 33 (0, 0))) := (hb1.block _ (by simp; omega)).trans (new_old (new_at rfl))
  have hR1 : Hid (w1.heap[w.heap.size + 1]? = some (.cells (jobA 0 (.slice none 0 0) (.slice none 0 0) false) 42 (0, 0))) := (hb1.block _ (by simp)).trans (new_at (by simp))
  have hB1 : Below w.heap.size w w1 := (((Below.refl _ _).alloc (Nat.le_refl _) _).alloc (by simp) _).trans (hb1.mono (by simp; omega))
  replace hown1 : w1.ownsRow (w.heap.size + 2) 51 4 v1 (s.lv 2).length ((s.lv 2).flatMap metaC) := own_below hown1 (Below.refl _ _) (by simp)
  clear hb1 KC
  have KM := Lib.hid (MinFunc_calls (s.lv 2) v1 w1 (Rd.of_own hown1) hne hbd.out)
  go_wp2_with fail
  refine KM.out.mono ?_
  rintro e w2' ⟨rfl, hb2⟩
  have hs2 := hb2.size
  obtain ⟨y, hy⟩ : ∃ y, leastM (s.lv 2) = y := ⟨_, rfl⟩
  rw [hy]
  have hfr : frmS s 2 = [y] := by unfold frmS; rw [if_neg (by omega), hy]
  replace hfr := Lib.hid hfr
  clear hy KM hown1
  go_wp2_with fail
  obtain ⟨w2, hw2⟩ : ∃ w2, w2 = w2'.alloc (.cells (metaVA y) 51) := ⟨_, rfl⟩
  have hownf : w2.ownsRow (w.heap.size + 2) 51 4 (.slice (some ⟨w2'.heap.size, 0, none⟩) 1 1) (frmS s 2).length ((frmS s 2).flatMap metaC) := by
    rw [hfr.out, hw2]
    exact ⟨by simp [metaC], .inr ⟨w2'.heap.size, 1, metaVA y, rfl, by omega, new_at rfl, Nat.le_refl _, by unfold maxLen; omega, rfl, by simp [metaVA, metaC]⟩⟩
  have hb2a : Below w1.heap.size w1 w2 := by rw [hw2]; exact hb2.alloc hs2 _
  replace hH1 : Hid (w2.heap[w.heap.size]? = some (.cells (stA s f) 33 (0, 0))) := (hb2a.block _ (by omega)).trans hH1.out
  replace hR1 : Hid (w2.heap[w.heap.size + 1]? = some (.cells (jobA 0 (.slice none 0 0) (.slice none 0 0) false) 42 (0, 0))) := (hb2a.block _ (by omega)).trans hR1.out
  replace hB1 := hB1.trans (hb2a.mono (by omega))
  have hs1' := hb2a.size
  replace hs1 : w.heap.size + 2 ≤ w2.heap.size := by omega
  have hlen1 : (frmS s 2).length = 1 := by rw [hfr.out]; rfl
  clear hb2 hs2 hb2a hs1'
  have hshow : (.slice (some ⟨w2'.heap.size, 0, none⟩) 1 1 : Value) = .slice (some ⟨w2'.heap.size, 0, none⟩) (frmS s 2).length 1 := by rw [hlen1]
  clear hshow
  replace hs1 := Lib.hid hs1
  subst hw2
  have hs1 := hs1.out
  have hpos : 0 < (frmS s 2).length := by omega
  have KS := Lib.hid (span_calls (frmS s 2) (.slice (some ⟨w2'.heap.size, 0, none⟩) 1 1) _ (Rd.of_own hownf) hpos)
  obtain ⟨c3, c4, c5, c6⟩ := stA_cells hH1.out
  replace hpos := Lib.hid hpos
  refine KS.out.mono ?_
  rintro e w3 ⟨rfl, hb3⟩
  clear KS c3 c4 c5 c6
  have hs3 := hb3.size
  have hH3 : Hid (w3.heap[w.heap.size]? = some (.cells (stA s f) 33 (0, 0))) := (hb3.block _ (by omega)).trans hH1.out
  have hR3 : Hid (w3.heap[w.heap.size + 1]? = some (.cells (jobA 0 (.slice none 0 0) (.slice none 0 0) false) 42 (0, 0))) := (hb3.block _ (by omega)).trans hR1.out
  have hB3 := hB1.trans (hb3.mono (by omega))
  have hown3 := own_below hownf hb3 (Nat.le_refl _)
  clear hH1 hR1 hB1 hownf hb3
  obtain ⟨a1, ha1⟩ : ∃ a1, spanA (frmS s 2) = a1 := ⟨_, rfl⟩
  obtain ⟨z1, hz1⟩ : ∃ z1, spanZ (frmS s 2) = z1 := ⟨_, rfl⟩
  rw [ha1, hz1]
  have htoo : tooS s 2 = touchL (s.lv 3) a1 z1 := by unfold tooS; rw [ha1, hz1]
  have KT := Lib.hid (touchP_calls (s.lv 3) a1 z1 (f 3) w3 ((HF.out 3 (by omega)).below hB3) (HFEW.out 3 (by omega)))
  rw [← htoo] at KT
  replace ha1 := Lib.hid ha1
  replace hz1 := Lib.hid hz1
  replace htoo := Lib.hid htoo
  obtain ⟨c3, c4, c5, c6⟩ := stA_cells hH3.out
  go_wp2_with fail
  refine KT.out.mono ?_
  rintro e w4 ⟨vt, rfl, hownt, hb4⟩
  clear KT c3 c4 c5 c6
  have hs4 := hb4.size
  have hlt0 : (tooS s 2).length ≤ 1000000 := by
    have h1 := HFEW.out 3 (by omega)
    rw [htoo.out]; exact Nat.le_trans (List.length_filter_le _ _) h1
  obtain ⟨A2, ct, hvt, _, _, _, _⟩ := Rd.of_own hownt
  subst hvt
  have hT4 : Hid (∀ g, (Value.slice A2 (tooS s 2).length ct).ownBlock = some g → g < w4.heap.size) := fun g hg => (hownt.lt g hg).2
  have hF4 : Hid (∀ g, ((.slice (some ⟨w2'.heap.size, 0, none⟩) 1 1) : Value).ownBlock = some g → g < w4.heap.size) := fun g hg => Nat.lt_of_lt_of_le (hown3.lt g hg).2 hs4
  go_wp2_with fail
  -- the job
  obtain ⟨w5, hw5⟩ : ∃ w5, w5 = (w4.alloc (.cells (jobA 2 (.slice (some ⟨w2'.heap.size, 0, none⟩) 1 1) (.slice A2 (tooS s 2).length ct) true) 42)).alloc (.cells #[(.slice (some ⟨w2'.heap.size, 0, none⟩) 1 1), .slice A2 (tooS s 2).length ct] 30) := ⟨_, rfl⟩
  have hb5 : Below w4.heap.size w4 w5 := by rw [hw5]; exact ((Below.refl _ _).alloc (Nat.le_refl _) _).alloc (by simp) _
  have hJ5 : Hid (w5.heap[w4.heap.size]? = some (.cells (jobA 2 (.slice (some ⟨w2'.heap.size, 0, none⟩) 1 1) (.slice A2 (tooS s 2).length ct) true) 42 (0, 0))) := by show _ = _; rw [hw5]; exact new_old (new_at rfl)
  have hP5 : w5.heap[w4.heap.size + 1]? = some (.cells #[(.slice (some ⟨w2'.heap.size, 0, none⟩) 1 1), .slice A2 (tooS s 2).length ct] 30 (0, 0)) := by rw [hw5]; exact new_at (by simp)
  have hz5 : w5.heap.size = w4.heap.size + 2 := by rw [hw5]; simp
  have hb35 : Below w3.heap.size w3 w5 := hb4.trans (hb5.mono hs4)
  have hH5 : Hid (w5.heap[w.heap.size]? = some (.cells (stA s f) 33 (0, 0))) := (hb35.block _ (by omega)).trans hH3.out
  have hR5 : Hid (w5.heap[w.heap.size + 1]? = some (.cells (jobA 0 (.slice none 0 0) (.slice none 0 0) false) 42 (0, 0))) := (hb35.block _ (by omega)).trans hR3.out
  have hB5 := hB3.trans (hb35.mono (by omega))
  have hownf5 := own_below hown3 hb35 (Nat.le_refl _)
  have hownt5 := own_below hownt hb5 (show w.heap.size + 2 ≤ _ from by omega)
  have KN := Lib.hid (Concat_calls (frmS s 2) (tooS s 2) (.slice (some ⟨w2'.heap.size, 0, none⟩) 1 1) (.slice A2 (tooS s 2).length ct) w5 (w4.heap.size + 1) (Rd.of_own hownf5) (Rd.of_own hownt5) (by omega) hlt0 (by constructor <;> simp [World.cell?, hP5]))
  have hs5 : w4.heap.size + 2 ≤ w5.heap.size := by omega
  clear hP5 hb35 hb5 hb4 hown3 hownt hH3 hR3 hB3
  replace hJ5 := Lib.hid hJ5.out
  replace hownf5 := Lib.hid hownf5
  replace hownt5 := Lib.hid hownt5
  replace hB5 := Lib.hid hB5
  replace hz5 := Lib.hid hz5
  replace hs5 := Lib.hid hs5
  replace hlt0 := Lib.hid hlt0
  subst hw5
  refine KN.out.mono ?_
  rintro e w6 ⟨v6, rfl, hown6, hb6⟩
  clear KN
  have hs6 := hb6.size
  have hJ6 : Hid (w6.heap[w4.heap.size]? = some (.cells (jobA 2 (.slice (some ⟨w2'.heap.size, 0, none⟩) 1 1) (.slice A2 (tooS s 2).length ct) true) 42 (0, 0))) := (hb6.block _ (by have := hs5.out; omega)).trans hJ5.out
  have hH6 : Hid (w6.heap[w.heap.size]? = some (.cells (stA s f) 33 (0, 0))) := (hb6.block _ (by have := hs5.out; omega)).trans hH5.out
  have hR6 : Hid (w6.heap[w.heap.size + 1]? = some (.cells (jobA 0 (.slice none 0 0) (.slice none 0 0) false) 42 (0, 0))) := (hb6.block _ (by have := hs5.out; omega)).trans hR5.out
  have hB6 := hB5.out.trans (hb6.mono (by have := hs5.out; omega))
  have hownf6 := own_below hownf5.out hb6 (Nat.le_refl _)
  have hownt6 := own_below hownt5.out hb6 (Nat.le_refl _)
  have hs6' : w4.heap.size + 2 ≤ w6.heap.size := by have := hs5.out; omega
  have KS2 := Lib.hid (span_calls (frmS s 2 ++ tooS s 2) v6 w6 (Rd.of_own hown6) (by have := hpos.out; simp; omega))
  clear hJ5 hH5 hR5 hB5 hownf5 hownt5 hb6 hown6 hs6 hs5 hz5
  go_wp2_with fail
  refine KS2.out.mono ?_
  rintro e w7 ⟨rfl, hb7⟩
  clear KS2
  have hs7 := hb7.size
  have hJ7 : Hid (w7.heap[w4.heap.size]? = some (.cells (jobA 2 (.slice (some ⟨w2'.heap.size, 0, none⟩) 1 1) (.slice A2 (tooS s 2).length ct) true) 42 (0, 0))) := (hb7.block _ (by omega)).trans hJ6.out
  have hH7 : Hid (w7.heap[w.heap.size]? = some (.cells (stA s f) 33 (0, 0))) := (hb7.block _ (by omega)).trans hH6.out
  have hR7 : Hid (w7.heap[w.heap.size + 1]? = some (.cells (jobA 0 (.slice none 0 0) (.slice none 0 0) false) 42 (0, 0))) := (hb7.block _ (by omega)).trans hR6.out
  have hB7 := hB6.trans (hb7.mono (by omega))
  have hownf7 := Lib.hid (own_below hownf6 hb7 (Nat.le_refl _))
  have hownt7 := Lib.hid (own_below hownt6 hb7 (Nat.le_refl _))
  clear hJ6 hH6 hR6 hB6 hownf6 hownt6 hb7
  obtain ⟨a2, ha2⟩ : ∃ a2, spanA (frmS s 2 ++ tooS s 2) = a2 := ⟨_, rfl⟩
  obtain ⟨z2, hz2⟩ : ∃ z2, spanZ (frmS s 2 ++ tooS s 2) = z2 := ⟨_, rfl⟩
  rw [ha2, hz2]
  have HDB : Hid (∀ k, deepB s 2 k = ((touchL (s.lv k) a2 z2).length == 0)) := fun k => by unfold deepB; rw [ha2, hz2]
  replace ha2 := Lib.hid ha2
  replace hz2 := Lib.hid hz2
  go_wp2_with fail
  clear hs6' hs7
  go_loopw [52] (fun iv wr => ∃ (k : Nat) (z : Int), k ≤ 0 ∧ z = k ∧ iv = .int .i64 z ∧ Hid (wr.heap[w4.heap.size]? = some (.cells (jobA 2 (.slice (some ⟨w2'.heap.size, 0, none⟩) 1 1) (.slice A2 (tooS s 2).length ct) (botS s 2 k)) 42 (0, 0))) ∧ Hid (wr.heap[w.heap.size]? = some (.cells (stA s f) 33 (0, 0))) ∧
      Hid (wr.heap[w.heap.size + 1]? = some (.cells (jobA 0 (.slice none 0 0) (.slice none 0 0) false) 42 (0, 0))) ∧ Hid (wr.ownsRow (w.heap.size + 2) 51 4 (.slice (some ⟨w2'.heap.size, 0, none⟩) 1 1) (frmS s 2).length ((frmS s 2).flatMap metaC)) ∧ Hid (wr.ownsRow (w.heap.size + 2) 51 4 (.slice A2 (tooS s 2).length ct) (tooS s 2).length ((tooS s 2).flatMap metaC)) ∧ Hid (Below w.heap.size w wr))
    (fun iv _ => 0 - (intOf iv).toNat)
  case atStart => exact ⟨0, 0, by omega, rfl, rfl, hJ7, hH7, hR7, hownf7, hownt7, hB7⟩
  case round =>
    clear hJ7 hH7 hR7 hownf7 hownt7 hB7
    obtain ⟨k, z, hk, hzk, rfl, hJk, hHk, hRk, hfk, htk, hBk⟩ := hrel
    have hJlt := lt_of_at hJk.out
    have hs0 := hBk.out.size
    obtain ⟨⟨j0, j1, j2, j3⟩, jfr⟩ := job_cells hJk.out
    have jf3 := jfr 3
    clear jfr
    obtain ⟨c3, c4, c5, c6⟩ := stA_cells hHk.out
    by_cases hkK : k < 0
    · exact absurd hkK (by omega)
    · obtain rfl : k = 0 := by omega
      obtain rfl : z = 0 := by omega
      clear hzk hkK hk
      obtain ⟨⟨p0, p1, p2, p3⟩, pfr⟩ := job_cells hRk.out
      have pf0 := pfr 0
      have pf1 := pfr 1
      have pf2 := pfr 2
      have pf3 := pfr 3
      clear pfr
      obtain ⟨bo, hbo⟩ : ∃ bo, botS s 2 0 = bo := ⟨_, rfl⟩
      rw [hbo] at j3
      replace hbo := Lib.hid hbo
      clear c3 c4 c5 c6
      go_wp2_with fail
      refine bodyPost_ret (v := .agg #[.int .i64 2, (.slice (some ⟨w2'.heap.size, 0, none⟩) 1 1), .slice A2 (tooS s 2).length ct, .bool bo]) ?_ rfl ?_
      · simp [results, Try.results56, go_sem, *]
      · refine ⟨(.slice (some ⟨w2'.heap.size, 0, none⟩) 1 1), .slice A2 (tooS s 2).length ct, by rw [hJ.out.1, hJ.out.2.2.2, hbo.out], ?_, ?_, below_set4 hBk.out (by omega)⟩
        · rw [hJ.out.2.1]
          exact own_below (own_heap hfk.out (fun g hg => .inl (set4_far (by omega)))) (Below.refl _ _) (by omega)
        · rw [hJ.out.2.2.1]
          exact own_below (own_heap htk.out (fun g hg => .inl (set4_far (by omega)))) (Below.refl _ _) (by omega)
end Go.Proofs.Ytheanmfdfoefoaa
