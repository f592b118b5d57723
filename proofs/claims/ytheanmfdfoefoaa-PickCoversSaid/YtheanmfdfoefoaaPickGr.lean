/- assartlaw19: grown, to, same; assartref17.Empty. -/
import Derived.Test.YtheanmfdfoefoaaRefApply
import Derived.Test.YtheanmfdfoefoaaPickConv
import Derived.Test.YtheanmfdfoefoaaPickNext
namespace Go.Proofs.Ytheanmfdfoefoaa
open Go Go.RowKit

def isSl (v : Value) : Prop := ∃ A n c, v = .slice A n c
/-- A state's block holds no text: no table is read out of it. -/
theorem rdx_st {w : World} {S : Nat} {t : TypeId} {s0 : StD} {f0 : Nat → Value} (hS : w.heap[S]? = some (.cells (stA s0 f0) t (0, 0))) (hf0 : ∀ n, n < 4 → isSl (f0 n)) {v : Value} {l : List MetaD} (h : RdT w 4 metaC v l) : RdX S (S + 1) w 4 metaC v l := by
  intro W hW
  obtain ⟨A, c, rfl, h1, h2, h3, h4⟩ := h
  refine ⟨A, c, rfl, h1, h2, h3, fun hn => ?_⟩
  obtain ⟨ad, rfl, hc⟩ := h4 hn
  refine ⟨ad, rfl, fun j u hu => hW _ _ ?_ (hc j u hu)⟩
  rw [blk_add]
  by_cases hb : ad.block = S
  · exfalso
    obtain ⟨m, l', rfl⟩ : ∃ m l', l = m :: l' := by cases l with
      | nil => simp at hn
      | cons m l' => exact ⟨m, l', rfl⟩
    have h2' := hc 2 (.string m.first) (by simp [metaC])
    obtain ⟨b, off, spot⟩ := ad
    have hsp := World.cell?_spot (hc 0 (.int .i64 m.file) (by simp [metaC]))
    simp only at hb
    subst hb
    have hspot : spot = none := by simpa [Addr.add] using hsp
    subst hspot
    rw [Addr.add_lit] at h2'
    have g0 := hf0 0 (by omega)
    have g1 := hf0 1 (by omega)
    have g2 := hf0 2 (by omega)
    have g3 := hf0 3 (by omega)
    obtain ⟨_, _, _, e0⟩ := g0
    obtain ⟨_, _, _, e1⟩ := g1
    obtain ⟨_, _, _, e2⟩ := g2
    obtain ⟨_, _, _, e3⟩ := g3
    simp only [World.cell?, hS, stA, e0, e1, e2, e3] at h2'
    obtain h | h | h | h | h | h := (by omega : off + 2 = 2 ∨ off + 2 = 3 ∨ off + 2 = 4 ∨ off + 2 = 5 ∨ off + 2 = 6 ∨ 7 ≤ off + 2)
    all_goals first | (rw [h] at h2'; simp at h2'; done) | (rw [Array.getElem?_eq_none (by simpa using h)] at h2'; simp at h2'; done) | (simp at h2'; done)
  · omega
theorem rdLv_set7 {w : World} {S : Nat} {t : TypeId} {s0 s : StD} {f0 f : Nat → Value} {a0 a1 a2 a3 a4 a5 a6 : Value} (hS : w.heap[S]? = some (.cells (stA s0 f0) t (0, 0))) (hf0 : ∀ n, n < 4 → isSl (f0 n)) (h : RdLv w f s) :
    RdLv (((((((w.setCell ⟨S, 0, none⟩ a0).setCell ⟨S, 1, none⟩ a1).setCell ⟨S, 2, none⟩ a2).setCell ⟨S, 3, none⟩ a3).setCell ⟨S, 4, none⟩ a4).setCell ⟨S, 5, none⟩ a5).setCell ⟨S, 6, none⟩ a6) f s := by
  intro n hn
  have h1 : S ≤ S := Nat.le_refl _
  have h2 : S < S + 1 := Nat.lt_succ_self _
  exact ((((((((rdx_st hS hf0 (h n hn)).set h1 h2 _ _).set h1 h2 _ _).set h1 h2 _ _).set h1 h2 _ _).set h1 h2 _ _).set h1 h2 _ _).set h1 h2 _ _).rd
theorem set7_blk {w : World} {S : Nat} {t : TypeId} {s0 s : StD} {f0 f : Nat → Value} (hS : w.heap[S]? = some (.cells (stA s0 f0) t (0, 0))) :
    (((((((w.setCell ⟨S, 0, none⟩ (.int .i64 s.log)).setCell ⟨S, 1, none⟩ (.int .i64 s.next)).setCell ⟨S, 2, none⟩ (.int .i64 s.seq)).setCell ⟨S, 3, none⟩ (f 0)).setCell ⟨S, 4, none⟩ (f 1)).setCell ⟨S, 5, none⟩ (f 2)).setCell ⟨S, 6, none⟩ (f 3)).heap[S]? = some (.cells (stA s f) t (0, 0)) := by
  have h1 := heap_setCell_same w S 0 _ t (.int .i64 s.log) hS
  have h2 := heap_setCell_same _ S 1 _ t (.int .i64 s.next) h1
  have h3 := heap_setCell_same _ S 2 _ t (.int .i64 s.seq) h2
  have h4 := heap_setCell_same _ S 3 _ t (f 0) h3
  have h5 := heap_setCell_same _ S 4 _ t (f 1) h4
  have h6 := heap_setCell_same _ S 5 _ t (f 2) h5
  have h7 := heap_setCell_same _ S 6 _ t (f 3) h6
  rw [h7]; simp [stA]
theorem set7_far {w : World} {b k : Nat} {a0 a1 a2 a3 a4 a5 a6 : Value} (hk : k ≠ b) :
    (((((((w.setCell ⟨b, 0, none⟩ a0).setCell ⟨b, 1, none⟩ a1).setCell ⟨b, 2, none⟩ a2).setCell ⟨b, 3, none⟩ a3).setCell ⟨b, 4, none⟩ a4).setCell ⟨b, 5, none⟩ a5).setCell ⟨b, 6, none⟩ a6).heap[k]? = w.heap[k]? := by
  rw [Below.heap_setCell _ _ _ _ hk, Below.heap_setCell _ _ _ _ hk, Below.heap_setCell _ _ _ _ hk, Below.heap_setCell _ _ _ _ hk, Below.heap_setCell _ _ _ _ hk, Below.heap_setCell _ _ _ _ hk, Below.heap_setCell _ _ _ _ hk]
theorem stA_free {w : World} {b : Nat} {t : TypeId} {s : StD} {f : Nat → Value} (h : w.heap[b]? = some (.cells (stA s f) t (0, 0))) : w.frozen? ⟨b, 0, none⟩ = false ∧ w.frozen? ⟨b, 1, none⟩ = false ∧ w.frozen? ⟨b, 2, none⟩ = false ∧ w.frozen? ⟨b, 3, none⟩ = false ∧ w.frozen? ⟨b, 4, none⟩ = false ∧ w.frozen? ⟨b, 5, none⟩ = false ∧ w.frozen? ⟨b, 6, none⟩ = false :=
  ⟨st_free h 0, st_free h 1, st_free h 2, st_free h 3, st_free h 4, st_free h 5, st_free h 6⟩
theorem lv_sl {w : World} {f : Nat → Value} {s : StD} (h : RdLv w f s) : ∀ n, n < 4 → isSl (f n) := fun n hn => by
  obtain ⟨A, c, e, _⟩ := (h n hn).len
  exact ⟨A, _, c, e⟩

set_option maxRecDepth 100000 in
set_option maxHeartbeats 400000 in
theorem Empty_calls (w : World) : Calls Try.prog 41 #[] w fun e w' => e = .returned (.agg #[.int .i64 1, .int .i64 1, .int .i64 0, .slice none 0 0, .slice none 0 0, .slice none 0 0, .slice none 0 0]) ∧ Below w.heap.size w w' := by
  go_enter Try.func41, Try.ntmps41
  go_wp2
  refine bodyPost_ret (v := .agg #[.int .i64 1, .int .i64 1, .int .i64 0, .slice none 0 0, .slice none 0 0, .slice none 0 0, .slice none 0 0]) ?_ rfl ⟨rfl, ?_⟩
  · simp [results, Try.results41, go_sem]
  · exact (Below.refl _ _).alloc (Nat.le_refl _) _

def ToPost (w : World) (s : StD) (e : Ending) (w' : World) : Prop :=
  ∃ g : Nat → Value, e = .returned (.agg #[.int .i64 s.log, .int .i64 s.next, .int .i64 s.seq, g 0, g 1, g 2, g 3]) ∧ (∀ n, n < 4 → w'.ownsRow w.heap.size 51 4 (g n) (s.lv n).length ((s.lv n).flatMap metaC)) ∧ Below w.heap.size w w'
set_option maxRecDepth 100000 in
set_option maxHeartbeats 1000000 in
theorem to_calls (s : StD) (f : Nat → Value) (w : World) (hf : RdLv w f s) (hl : ∀ n, n < 4 → (s.lv n).length ≤ 1000000) :
    Calls Try.prog 15 #[.agg #[.int .i64 s.log, .int .i64 s.next, .int .i64 s.seq, f 0, f 1, f 2, f 3]] w (ToPost w s) := by
  have HF := Lib.hid hf
  have HL := Lib.hid hl
  clear hf hl
  go_enter Try.func15, Try.ntmps15
  go_wp2_with fail
  go_loopw [4] (fun iv wr => ∃ (k : Nat) (g : Nat → Value), k ≤ 4 ∧ iv = .int .i64 (k : Int) ∧ Hid (∀ n, n < 4 → if n < k then wr.ownsRow (w.heap.size + 3) 51 4 (g n) (s.lv n).length ((s.lv n).flatMap metaC) else g n = .slice none 0 0) ∧
      Hid (wr.heap[w.heap.size]? = some (.cells (stA s f) 28 (0, 0))) ∧ Hid (wr.heap[w.heap.size + 1]? = some (.cells (stA noS nilF) 33 (0, 0))) ∧ Hid (wr.heap[w.heap.size + 2]? = some (.cells (stA s g) 33 (0, 0))) ∧ Below w.heap.size w wr)
    (fun iv _ => 4 - (intOf iv).toNat)
  case atStart => exact ⟨0, nilF, by omega, rfl, fun n hn => rfl, new_old (new_old (new_at rfl)), new_old (new_at (by simp)), new_at (by simp), (((Below.refl _ _).alloc (Nat.le_refl _) _).alloc (by simp) _).alloc (by simp; omega) _⟩
  case round =>
    obtain ⟨k, g, hk, rfl, hg, hS, hR, hO, hb⟩ := hrel
    have hsz := hb.size
    have hlt := lt_of_at hO.out
    by_cases hk4 : k < 4
    · have hk4' : (k : Int) < 4 := by omega
      have h0 : (0 : Int) ≤ k := by omega
      have cl := st_cell hS.out hk4
      have KT := Lib.hid (fun W (h : Below wr.heap.size wr W) => tables_calls (s.lv k) (f k) W (((HF.out k hk4).below hb).below h) (HL.out k hk4))
      have KO : ∀ W, Below wr.heap.size wr W → W.cell? ⟨w.heap.size + 2, 3 + k, none⟩ = some (g k) ∧ W.frozen? ⟨w.heap.size + 2, 3 + k, none⟩ = false := fun W h => ⟨st_cell ((h.block _ hlt).trans hO.out) hk4, st_free ((h.block _ hlt).trans hO.out) _⟩
      replace KO := Lib.hid KO
      go_wp2_with fail
      refine (KT.out _ (Below.refl _ _)).mono ?_
      rintro e w2 ⟨v2, rfl, hown2, hb2⟩
      obtain ⟨ho1, ho2⟩ := KO.out _ hb2
      obtain ⟨A2, c2, hv2, _, _, _, _⟩ := Rd.of_own hown2
      subst hv2
      have hne : ∀ b, b ≠ w.heap.size + 2 → (w2.setCell ⟨w.heap.size + 2, 3 + k, none⟩ (.slice A2 (s.lv k).length c2)).heap[b]? = w2.heap[b]? := fun b hb' => Below.heap_setCell w2 _ _ b hb'
      have hg2 : Hid (∀ n, n < 4 → if n < k + 1 then (w2.setCell ⟨w.heap.size + 2, 3 + k, none⟩ (.slice A2 (s.lv k).length c2)).ownsRow (w.heap.size + 3) 51 4 (upd g k (.slice A2 (s.lv k).length c2) n) (s.lv n).length ((s.lv n).flatMap metaC) else upd g k (.slice A2 (s.lv k).length c2) n = .slice none 0 0) := fun n hn => by
        have hgn := hg.out n hn
        by_cases hnk : n = k
        · subst hnk
          rw [if_pos (by omega)]
          simp only [upd, if_true]
          exact own_heap (own_below hown2 (Below.refl _ _) (by show w.heap.size + 3 ≤ wr.heap.size; omega)) (fun g' hg' => .inl (hne g' (by omega)))
        · simp only [upd, if_neg hnk]
          by_cases hlt' : n < k
          · rw [if_pos hlt'] at hgn
            rw [if_pos (by omega)]
            exact own_heap (own_below hgn hb2 (Nat.le_refl _)) (fun g' hg' => .inl (hne g' (by omega)))
          · rw [if_neg hlt'] at hgn
            rw [if_neg (by omega)]
            exact hgn
      have hO2 : Hid ((w2.setCell ⟨w.heap.size + 2, 3 + k, none⟩ (.slice A2 (s.lv k).length c2)).heap[w.heap.size + 2]? = some (.cells (stA s (upd g k (.slice A2 (s.lv k).length c2))) 33 (0, 0))) := by
        show _ = _
        rw [heap_setCell_same _ _ _ _ _ _ ((hb2.block _ hlt).trans hO.out)]
        obtain rfl | rfl | rfl | rfl : k = 0 ∨ k = 1 ∨ k = 2 ∨ k = 3 := by omega
        all_goals simp [stA, upd]
      have hS2 : Hid ((w2.setCell ⟨w.heap.size + 2, 3 + k, none⟩ (.slice A2 (s.lv k).length c2)).heap[w.heap.size]? = some (.cells (stA s f) 28 (0, 0))) := (hne _ (by omega)).trans ((hb2.block _ (by omega)).trans hS.out)
      have hR2 : Hid ((w2.setCell ⟨w.heap.size + 2, 3 + k, none⟩ (.slice A2 (s.lv k).length c2)).heap[w.heap.size + 1]? = some (.cells (stA noS nilF) 33 (0, 0))) := (hne _ (by omega)).trans ((hb2.block _ (by omega)).trans hR.out)
      have hb9 := (hb.trans (hb2.mono hsz)).setCell (p := ⟨w.heap.size + 2, 3 + k, none⟩) (by show w.heap.size ≤ w.heap.size + 2; omega) (.slice A2 (s.lv k).length c2)
      clear hne cl
      replace hown2 := Lib.hid hown2
      replace hb2 := Lib.hid hb2
      go_wp2_with fail
      go_roundw
      case rel => exact ⟨k + 1, _, by omega, by go_num, hg2, hS2, hR2, hO2, hb9⟩
      case measure => simp [intOf]; omega
    · obtain rfl : k = 4 := by omega
      have hg0 := hg.out 0 (by omega)
      have hg1 := hg.out 1 (by omega)
      have hg2 := hg.out 2 (by omega)
      have hg3 := hg.out 3 (by omega)
      rw [if_pos (by omega)] at hg0 hg1 hg2 hg3
      obtain ⟨A0, c0, e0, _, _, _, _⟩ := Rd.of_own hg0
      obtain ⟨A1, c1, e1, _, _, _, _⟩ := Rd.of_own hg1
      obtain ⟨A2, c2, e2, _, _, _, _⟩ := Rd.of_own hg2
      obtain ⟨A3, c3, e3, _, _, _, _⟩ := Rd.of_own hg3
      obtain ⟨o0, o1, o2, o3, o4, o5, o6⟩ := stA_all hO.out
      obtain ⟨p0, p1, p2, p3, p4, p5, p6⟩ := stA_all hR.out
      simp only [noS, nilF] at p0 p1 p2 p3 p4 p5 p6
      obtain ⟨q0, q1, q2, q3, q4, q5, q6⟩ := stA_free hR.out
      rw [e0] at o3
      rw [e1] at o4
      rw [e2] at o5
      rw [e3] at o6
      replace e0 := Lib.hid e0
      replace e1 := Lib.hid e1
      replace e2 := Lib.hid e2
      replace e3 := Lib.hid e3
      clear hg0 hg1 hg2 hg3
      go_wp2_with fail
      refine bodyPost_ret (v := .agg #[.int .i64 s.log, .int .i64 s.next, .int .i64 s.seq, .slice A0 (s.lv 0).length c0, .slice A1 (s.lv 1).length c1, .slice A2 (s.lv 2).length c2, .slice A3 (s.lv 3).length c3]) ?_ rfl ⟨g, by rw [e0.out, e1.out, e2.out, e3.out], fun n hn => ?_, below_set7 hb (by omega)⟩
      · simp [results, Try.results15, go_sem, *]
      · have := hg.out n hn
        rw [if_pos hn] at this
        exact own_below (own_heap this (fun g' hg' => .inl (set7_far (by omega)))) (Below.refl _ _) (by omega)
end Go.Proofs.Ytheanmfdfoefoaa
