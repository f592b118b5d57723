/- The law PickNext: its walk. -/
import Derived.Test.YtheanmfdfoefoaaPickSame
namespace Go.Proofs.Ytheanmfdfoefoaa
open Go Go.RowKit

def slF (a b c d : Value) : Nat → Value := fun n => if n = 0 then a else if n = 1 then b else if n = 2 then c else d
theorem slF_lv {w : World} {g : Nat → Value} {s : StD} (h : RdLv w g s) {a b c d : Value} (h0 : g 0 = a) (h1 : g 1 = b) (h2 : g 2 = c) (h3 : g 3 = d) : RdLv w (slF a b c d) s := fun n hn => by
  have := h n hn
  obtain rfl | rfl | rfl | rfl : n = 0 ∨ n = 1 ∨ n = 2 ∨ n = 3 := by omega
  · rw [h0] at this; exact this
  · rw [h1] at this; exact this
  · rw [h2] at this; exact this
  · rw [h3] at this; exact this
/-- A row that may be written: how long it is. -/
def Own4 (w : World) (base : Nat) (v : Value) (n : Nat) : Prop := (v = .slice none 0 0 ∧ n = 0) ∨ ∃ g cap cur t, v = .slice (some ⟨g, 0, none⟩) n cap ∧ base ≤ g ∧ w.heap[g]? = some (.cells cur t (0, 0)) ∧ n ≤ cap ∧ cap ≤ maxLen ∧ cur.size = cap * 4
theorem Own4.of_own {w : World} {base : Nat} {e : TypeId} {v : Value} {n : Nat} {xs : List Value} (h : w.ownsRow base e 4 v n xs) : Own4 w base v n := by
  obtain ⟨_, h⟩ := h
  rcases h with h | ⟨g, cap, cur, h1, h2, h3, h4, h5, h6, _⟩
  · exact .inl h
  · exact .inr ⟨g, cap, cur, e, h1, h2, h3, h4, h5, h6⟩
theorem Own4.below {w W : World} {base : Nat} {v : Value} {n : Nat} (h : Own4 w base v n) (hb : Below w.heap.size w W) : Own4 W base v n := by
  rcases h with h | ⟨g, cap, cur, t, h1, h2, h3, h4⟩
  · exact .inl h
  · exact .inr ⟨g, cap, cur, t, h1, h2, (hb.block g (lt_of_at h3)).trans h3, h4⟩
theorem Own4.set {w : World} {base : Nat} {v : Value} {n : Nat} (h : Own4 w base v n) {b o : Nat} (u : Value) (hb : ∀ cs t fr, w.heap[b]? = some (.cells cs t fr) → fr = (0, 0)) : Own4 (w.setCell ⟨b, o, none⟩ u) base v n := by
  rcases h with h | ⟨g, cap, cur, t, h1, h2, h3, h4, h5, h6⟩
  · exact .inl h
  · right
    by_cases hgb : g = b
    · subst hgb
      exact ⟨g, cap, cur.setIfInBounds o u, t, h1, h2, heap_setCell_same _ _ _ _ _ _ h3, h4, h5, by simpa using h6⟩
    · exact ⟨g, cap, cur, t, h1, h2, (Below.heap_setCell _ _ _ _ hgb).trans h3, h4, h5, h6⟩
theorem Own4.at {w : World} {base : Nat} {v : Value} {n : Nat} (h : Own4 w base v n) {k : Nat} (hk : k < n) : ∃ g cap, v = .slice (some ⟨g, 0, none⟩) n cap ∧ base ≤ g ∧ n ≤ cap ∧ cap ≤ maxLen ∧ (∃ u, w.cell? ⟨g, k * 4, none⟩ = some u) ∧ w.frozen? ⟨g, k * 4, none⟩ = false ∧ (∀ cs t fr, w.heap[g]? = some (.cells cs t fr) → fr = (0, 0)) := by
  rcases h with ⟨_, h⟩ | ⟨g, cap, cur, t, h1, h2, h3, h4, h5, h6⟩
  · omega
  · refine ⟨g, cap, h1, h2, h4, h5, ⟨cur[k * 4]'(by omega), ?_⟩, ?_, fun cs t' fr hh => ?_⟩
    · have : k * 4 < cur.size := by omega
      simp [World.cell?, h3, this]
    · simp [World.frozen?, h3]
    · rw [h3] at hh; injection hh with hh; injection hh with _ _ hh; exact hh.symm

theorem jobS_len (s : StD) (n : Nat) (hn : n < 3) (g : Gd s 30) : (jobS s n).frm.length ≤ 1000000 ∧ (jobS s n).too.length ≤ 1000000 := by
  have h0 := g.few 0 (by omega)
  have h1 := g.few (n + 1) (by omega)
  refine ⟨?_, ?_⟩
  · show (frmS s n).length ≤ _
    unfold frmS; split
    · omega
    · simp
  · show (tooS s n).length ≤ _
    exact Nat.le_trans (List.length_filter_le _ _) (by omega)
theorem nextD_len (s : StD) (lim : LimD) (g : Gd s 30) : (nextD s lim).1.frm.length ≤ 1000000 ∧ (nextD s lim).1.too.length ≤ 1000000 := by
  unfold nextD
  split
  · simp [noJ]
  · simp only [nextS]
    split
    · exact jobS_len s 0 (by omega) g
    · split
      · exact jobS_len s 1 (by omega) g
      · split
        · exact jobS_len s 2 (by omega) g
        · simp [noJ]

set_option maxRecDepth 100000 in
set_option maxHeartbeats 4000000 in
theorem PickNext_calls (l : List AddD) (lim : LimD) (level : Int) (v : Value) (w : World) (hv : RdT w 5 addC v l) :
    Calls Try.prog 3 #[v, .agg #[.int .i64 lim.tables, .int .i64 lim.bytes], .int .i64 level] w fun e w' => e = .returned (.bool true) ∧ Below w.heap.size w w' := by
  have hgd := grow_gd l
  have KG := Lib.hid (grown_calls l v (w.alloc (.cells #[.int .i64 lim.tables, .int .i64 lim.bytes] 24)) (RdT.below hv ((Below.refl _ _).alloc (Nat.le_refl _) _)))
  obtain ⟨s, hs⟩ : ∃ s, growS l = s := ⟨_, rfl⟩
  rw [hs] at KG hgd
  have HGD := Lib.hid hgd
  have HL6 := Lib.hid (fun n hn => Nat.le_trans (hgd.few n hn) (show 30 ≤ 1000000 by omega))
  obtain ⟨Av, cv, hvv, _, _⟩ := hv.len
  subst hvv
  clear hs hv hgd
  go_enter Try.func3, Try.ntmps3
  go_wp2_with fail
  refine KG.out.mono ?_
  rintro e w1 ⟨g, rfl, hlv1, hb1⟩
  clear KG
  obtain ⟨A0, a0, e0, _, _⟩ := (hlv1 0 (by omega)).len
  obtain ⟨A1, a1, e1, _, _⟩ := (hlv1 1 (by omega)).len
  obtain ⟨A2, a2, e2, _, _⟩ := (hlv1 2 (by omega)).len
  obtain ⟨A3, a3, e3, _, _⟩ := (hlv1 3 (by omega)).len
  have hlv1' := slF_lv hlv1 e0 e1 e2 e3
  rw [e0, e1, e2, e3]
  clear e0 e1 e2 e3 hlv1
  obtain ⟨gf, hgf⟩ : ∃ gf, gf = slF (.slice A0 (s.lv 0).length a0) (.slice A1 (s.lv 1).length a1) (.slice A2 (s.lv 2).length a2) (.slice A3 (s.lv 3).length a3) := ⟨_, rfl⟩
  rw [← hgf] at hlv1'
  have hG0 : Hid (gf 0 = .slice A0 (s.lv 0).length a0 ∧ gf 1 = .slice A1 (s.lv 1).length a1 ∧ gf 2 = .slice A2 (s.lv 2).length a2 ∧ gf 3 = .slice A3 (s.lv 3).length a3) := by show _ ∧ _; rw [hgf]; exact ⟨rfl, rfl, rfl, rfl⟩
  clear hgf
  have hB1 : Below w.heap.size w w1 := ((Below.refl _ _).alloc (Nat.le_refl _) _).trans (hb1.mono (by simp))
  have hs1 : w.heap.size + 1 ≤ w1.heap.size := by have := hb1.size; simpa using this
  have hlim1 : w1.heap[w.heap.size]? = some (.cells #[.int .i64 lim.tables, .int .i64 lim.bytes] 24 (0, 0)) := (hb1.block _ (by simp)).trans (new_at rfl)
  clear hb1
  replace hlim1 := Lib.hid hlim1
  replace hlv1' := Lib.hid hlv1'
  go_wp2_with fail
  -- the state lies at w1's end
  obtain ⟨w2, hw2⟩ : ∃ w2, w2 = w1.alloc (Obj.cells #[.int .i64 s.log, .int .i64 s.next, .int .i64 s.seq, .slice A0 (s.lv 0).length a0, .slice A1 (s.lv 1).length a1, .slice A2 (s.lv 2).length a2, .slice A3 (s.lv 3).length a3] 28) := ⟨_, rfl⟩
  rw [← hw2, ← hG0.out.1, ← hG0.out.2.1, ← hG0.out.2.2.1, ← hG0.out.2.2.2]
  -- to
  have hS2 : w2.heap[w1.heap.size]? = some (.cells (stA s gf) 28 (0, 0)) := by rw [hw2]; unfold stA; rw [hG0.out.1, hG0.out.2.1, hG0.out.2.2.1, hG0.out.2.2.2]; exact new_at rfl
  have hb12 : Below w1.heap.size w1 w2 := by rw [hw2]; exact (Below.refl _ _).alloc (Nat.le_refl _) _
  have hz2 : w2.heap.size = w1.heap.size + 1 := by rw [hw2]; simp
  clear hw2
  obtain ⟨S7, hS7e⟩ : ∃ S7, w1.heap.size = S7 := ⟨_, rfl⟩
  rw [hS7e] at hS2 hz2 hs1 ⊢
  have hlv2 : RdLv w2 gf s := hlv1'.out.below hb12
  have hlim2 : w2.heap[w.heap.size]? = some (.cells #[.int .i64 lim.tables, .int .i64 lim.bytes] 24 (0, 0)) := (hb12.block _ (by omega)).trans hlim1.out
  have hB2 : Below w.heap.size w w2 := hB1.trans (hb12.mono (by omega))
  clear hb12 hlim1 hlv1' hB1 hS7e
  refine (to_calls s gf w2 hlv2 HL6.out).mono ?_
  rintro e w3 ⟨h, rfl, hown3, hb3⟩
  obtain ⟨C0, c0, e0, _, _, _, _⟩ := Rd.of_own (hown3 0 (by omega))
  obtain ⟨C1, c1, e1, _, _, _, _⟩ := Rd.of_own (hown3 1 (by omega))
  obtain ⟨C2, c2, e2, _, _, _, _⟩ := Rd.of_own (hown3 2 (by omega))
  obtain ⟨C3, c3, e3, _, _, _, _⟩ := Rd.of_own (hown3 3 (by omega))
  have hlvh : RdLv w3 h s := fun n hn => Rd.of_own (hown3 n hn)
  have hlvh' := slF_lv hlvh e0 e1 e2 e3
  rw [e0, e1, e2, e3]
  clear e0 e1 e2 e3 hlvh hown3
  obtain ⟨hf, hhf⟩ : ∃ hf, hf = slF (.slice C0 (s.lv 0).length c0) (.slice C1 (s.lv 1).length c1) (.slice C2 (s.lv 2).length c2) (.slice C3 (s.lv 3).length c3) := ⟨_, rfl⟩
  rw [← hhf] at hlvh'
  have hH0 : Hid (hf 0 = .slice C0 (s.lv 0).length c0 ∧ hf 1 = .slice C1 (s.lv 1).length c1 ∧ hf 2 = .slice C2 (s.lv 2).length c2 ∧ hf 3 = .slice C3 (s.lv 3).length c3) := by show _ ∧ _; rw [hhf]; exact ⟨rfl, rfl, rfl, rfl⟩
  clear hhf
  have hs3 := hb3.size
  have hS3 : Hid (w3.heap[S7]? = some (.cells (stA s gf) 28 (0, 0))) := (hb3.block _ (by omega)).trans hS2
  have hlim3 : Hid (w3.heap[w.heap.size]? = some (.cells #[.int .i64 lim.tables, .int .i64 lim.bytes] 24 (0, 0))) := (hb3.block _ (by omega)).trans hlim2
  have hlv3 := hlv2.below hb3
  have hB3 := hB2.trans (hb3.mono (by omega))
  clear hS2 hlim2 hlv2 hB2 hb3
  have l0 : ∀ o : Obj, (w3.alloc o).cell? ⟨w.heap.size, 0, none⟩ = some (.int .i64 lim.tables) := fun o => by have := new_old (o := o) hlim3.out; simp [World.cell?, this]
  have l1 : ∀ o : Obj, (w3.alloc o).cell? ⟨w.heap.size, 1, none⟩ = some (.int .i64 lim.bytes) := fun o => by have := new_old (o := o) hlim3.out; simp [World.cell?, this]
  have l0' : ∀ o o' : Obj, ((w3.alloc o).alloc o').cell? ⟨w.heap.size, 0, none⟩ = some (.int .i64 lim.tables) := fun o o' => by have := new_old (o := o') (new_old (o := o) hlim3.out); simp [World.cell?, this]
  have l1' : ∀ o o' : Obj, ((w3.alloc o).alloc o').cell? ⟨w.heap.size, 1, none⟩ = some (.int .i64 lim.bytes) := fun o o' => by have := new_old (o := o') (new_old (o := o) hlim3.out); simp [World.cell?, this]
  have k0 : ∀ o o' : Obj, ((w3.alloc o).alloc o').cell? ⟨S7, 0, none⟩ = some (.int .i64 s.log) := fun o o' => (stA_all (new_old (o := o') (new_old (o := o) hS3.out))).1
  have k1 : ∀ o o' : Obj, ((w3.alloc o).alloc o').cell? ⟨S7, 1, none⟩ = some (.int .i64 s.next) := fun o o' => (stA_all (new_old (o := o') (new_old (o := o) hS3.out))).2.1
  have k2 : ∀ o o' : Obj, ((w3.alloc o).alloc o').cell? ⟨S7, 2, none⟩ = some (.int .i64 s.seq) := fun o o' => (stA_all (new_old (o := o') (new_old (o := o) hS3.out))).2.2.1
  have k3 : ∀ o o' : Obj, ((w3.alloc o).alloc o').cell? ⟨S7, 3, none⟩ = some (gf 0) := fun o o' => (stA_all (new_old (o := o') (new_old (o := o) hS3.out))).2.2.2.1
  have k4 : ∀ o o' : Obj, ((w3.alloc o).alloc o').cell? ⟨S7, 4, none⟩ = some (gf 1) := fun o o' => (stA_all (new_old (o := o') (new_old (o := o) hS3.out))).2.2.2.2.1
  have k5 : ∀ o o' : Obj, ((w3.alloc o).alloc o').cell? ⟨S7, 5, none⟩ = some (gf 2) := fun o o' => (stA_all (new_old (o := o') (new_old (o := o) hS3.out))).2.2.2.2.2.1
  have k6 : ∀ o o' : Obj, ((w3.alloc o).alloc o').cell? ⟨S7, 6, none⟩ = some (gf 3) := fun o o' => (stA_all (new_old (o := o') (new_old (o := o) hS3.out))).2.2.2.2.2.2
  go_wp2_with fail
  clear l0 l1 l0' l1' k0 k1 k2 k3 k4 k5 k6
  -- the document's
  obtain ⟨w5, hw5⟩ : ∃ w5, w5 = (w3.alloc (Obj.cells #[.int .i64 s.log, .int .i64 s.next, .int .i64 s.seq, .slice C0 (s.lv 0).length c0, .slice C1 (s.lv 1).length c1, .slice C2 (s.lv 2).length c2, .slice C3 (s.lv 3).length c3] 33)).alloc (Obj.cells #[.int .i64 lim.tables, .int .i64 lim.bytes] 35) := ⟨_, rfl⟩
  rw [← hw5]
  have hE5 : w5.heap[w3.heap.size]? = some (.cells (stA s hf) 33 (0, 0)) := by rw [hw5]; unfold stA; rw [hH0.out.1, hH0.out.2.1, hH0.out.2.2.1, hH0.out.2.2.2]; exact new_old (new_at rfl)
  have hP5 : w5.heap[w3.heap.size + 1]? = some (.cells #[.int .i64 lim.tables, .int .i64 lim.bytes] 35 (0, 0)) := by rw [hw5]; exact new_at (by simp)
  have hb5 : Below w3.heap.size w3 w5 := by rw [hw5]; exact ((Below.refl _ _).alloc (Nat.le_refl _) _).alloc (by simp) _
  have hz5 : w5.heap.size = w3.heap.size + 2 := by rw [hw5]; simp
  clear hw5
  obtain ⟨E8, hE8⟩ : ∃ E8, w3.heap.size = E8 := ⟨_, rfl⟩
  rw [hE8] at hE5 hP5 hz5 hs3 ⊢
  have hlv5 := hlv3.below hb5
  have hlvh5 := hlvh'.below hb5
  have hS5 := (hb5.block S7 (by omega)).trans hS3.out
  have hlim5 := (hb5.block w.heap.size (by omega)).trans hlim3.out
  have hB5 := hB3.trans (hb5.mono (by omega))
  clear hb5 hlv3 hlvh' hS3 hlim3 hB3 hE8
  have KD := DocNext_calls s gf lim w5 hlv5 HGD.out
  have KN := fun W hW => Next_calls s hf lim W hW HGD.out
  have HLN := nextD_len s lim HGD.out
  obtain ⟨r, hr⟩ : ∃ r, nextD s lim = r := ⟨_, rfl⟩
  rw [hr] at KD KN HLN
  replace HLN := Lib.hid HLN
  replace KN := Lib.hid KN
  clear hr
  refine KD.mono ?_
  rintro e w6 ⟨vf, vt, rfl, hrf, hrt, hb6⟩
  clear KD
  obtain ⟨F0, f0, rfl, _, _⟩ := hrf.len
  obtain ⟨F1, f1, rfl, _, _⟩ := hrt.len
  have hs6 := hb6.size
  have hE6 : Hid (w6.heap[E8]? = some (.cells (stA s hf) 33 (0, 0))) := (hb6.block _ (by omega)).trans hE5
  have hP6 : Hid (w6.heap[E8 + 1]? = some (.cells #[.int .i64 lim.tables, .int .i64 lim.bytes] 35 (0, 0))) := (hb6.block _ (by omega)).trans hP5
  have hS6 : Hid (w6.heap[S7]? = some (.cells (stA s gf) 28 (0, 0))) := (hb6.block _ (by omega)).trans hS5
  have hlim6 : Hid (w6.heap[w.heap.size]? = some (.cells #[.int .i64 lim.tables, .int .i64 lim.bytes] 24 (0, 0))) := (hb6.block _ (by omega)).trans hlim5
  have hlv6 := hlv5.below hb6
  have hlvh6 := hlvh5.below hb6
  have hB6 := hB5.trans (hb6.mono (by omega))
  clear hE5 hP5 hS5 hlim5 hlv5 hlvh5 hB5 hb6
  have l0 : ∀ o : Obj, (w6.alloc o).cell? ⟨E8 + 1, 0, none⟩ = some (.int .i64 lim.tables) := fun o => by have := new_old (o := o) hP6.out; simp [World.cell?, this]
  have l1 : ∀ o : Obj, (w6.alloc o).cell? ⟨E8 + 1, 1, none⟩ = some (.int .i64 lim.bytes) := fun o => by have := new_old (o := o) hP6.out; simp [World.cell?, this]
  have k0 : ∀ o : Obj, (w6.alloc o).cell? ⟨E8, 0, none⟩ = some (.int .i64 s.log) := fun o => (stA_all (new_old (o := o) hE6.out)).1
  have k1 : ∀ o : Obj, (w6.alloc o).cell? ⟨E8, 1, none⟩ = some (.int .i64 s.next) := fun o => (stA_all (new_old (o := o) hE6.out)).2.1
  have k2 : ∀ o : Obj, (w6.alloc o).cell? ⟨E8, 2, none⟩ = some (.int .i64 s.seq) := fun o => (stA_all (new_old (o := o) hE6.out)).2.2.1
  have k3 : ∀ o : Obj, (w6.alloc o).cell? ⟨E8, 3, none⟩ = some (hf 0) := fun o => (stA_all (new_old (o := o) hE6.out)).2.2.2.1
  have k4 : ∀ o : Obj, (w6.alloc o).cell? ⟨E8, 4, none⟩ = some (hf 1) := fun o => (stA_all (new_old (o := o) hE6.out)).2.2.2.2.1
  have k5 : ∀ o : Obj, (w6.alloc o).cell? ⟨E8, 5, none⟩ = some (hf 2) := fun o => (stA_all (new_old (o := o) hE6.out)).2.2.2.2.2.1
  have k6 : ∀ o : Obj, (w6.alloc o).cell? ⟨E8, 6, none⟩ = some (hf 3) := fun o => (stA_all (new_old (o := o) hE6.out)).2.2.2.2.2.2
  replace hrf := Lib.hid hrf
  replace hrt := Lib.hid hrt
  go_wp2_with fail
  clear l0 l1 k0 k1 k2 k3 k4 k5 k6
  obtain ⟨w7, hw7⟩ : ∃ w7, w7 = w6.alloc (Obj.cells #[.int .i64 r.1.level, .slice F0 r.1.frm.length f0, .slice F1 r.1.too.length f1, .bool r.1.bottom] 37) := ⟨_, rfl⟩
  rw [← hw7]
  -- the program's
  have hb67 : Below w6.heap.size w6 w7 := by rw [hw7]; exact (Below.refl _ _).alloc (Nat.le_refl _) _
  obtain ⟨J1, hJ1⟩ : ∃ J1, w6.heap.size = J1 := ⟨_, rfl⟩
  have hJa7 : Hid (w7.heap[J1]? = some (.cells (jobA r.1.level (.slice F0 r.1.frm.length f0) (.slice F1 r.1.too.length f1) r.1.bottom) 37 (0, 0))) := by show _ = _; rw [hw7, ← hJ1]; exact new_at rfl
  have hz7 : w7.heap.size = J1 + 1 := by rw [hw7, ← hJ1]; simp
  clear hw7
  rw [hJ1]
  have hE7 : Hid (w7.heap[E8]? = some (.cells (stA s hf) 33 (0, 0))) := (hb67.block _ (by omega)).trans hE6.out
  have hP7 : Hid (w7.heap[E8 + 1]? = some (.cells #[.int .i64 lim.tables, .int .i64 lim.bytes] 35 (0, 0))) := (hb67.block _ (by omega)).trans hP6.out
  have hS7 : Hid (w7.heap[S7]? = some (.cells (stA s gf) 28 (0, 0))) := (hb67.block _ (by omega)).trans hS6.out
  have hlim7 : Hid (w7.heap[w.heap.size]? = some (.cells #[.int .i64 lim.tables, .int .i64 lim.bytes] 24 (0, 0))) := (hb67.block _ (by omega)).trans hlim6.out
  have hlv7 := hlv6.below hb67
  have hlvh7 := hlvh6.below hb67
  have hB7 := hB6.trans (hb67.mono (by omega))
  have hrf7 : Hid (RdT w7 4 metaC (.slice F0 r.1.frm.length f0) r.1.frm) := RdT.below hrf.out hb67
  have hrt7 : Hid (RdT w7 4 metaC (.slice F1 r.1.too.length f1) r.1.too) := RdT.below hrt.out hb67
  clear hE6 hP6 hS6 hlim6 hlv6 hlvh6 hB6 
  clear hb67 hrf hrt
  refine (KN.out w7 hlvh7).mono ?_
  rintro e w8 ⟨uf, ut, rfl, hof, hot, hb8⟩
  clear KN
  obtain ⟨G0, g0, hu0, _, _, _, _⟩ := Rd.of_own hof
  obtain ⟨G1, g1, hu1, _, _, _, _⟩ := Rd.of_own hot
  subst hu0 hu1
  have hs8 := hb8.size
  have hE7' := hE7
  have hS7' := hS7
  have hlv7' := Lib.hid hlv7
  have hlvh7' := Lib.hid hlvh7
  have hB7' := Lib.hid hB7
  have hlt7 : E8 + 1 < w7.heap.size := by omega
  have hE8 : Hid (w8.heap[E8]? = some (.cells (stA s hf) 33 (0, 0))) := (hb8.block _ (by omega)).trans hE7.out
  have hP8 : Hid (w8.heap[E8 + 1]? = some (.cells #[.int .i64 lim.tables, .int .i64 lim.bytes] 35 (0, 0))) := (hb8.block _ (by omega)).trans hP7.out
  have hS8 : Hid (w8.heap[S7]? = some (.cells (stA s gf) 28 (0, 0))) := (hb8.block _ (by omega)).trans hS7.out
  have hlim8 : Hid (w8.heap[w.heap.size]? = some (.cells #[.int .i64 lim.tables, .int .i64 lim.bytes] 24 (0, 0))) := (hb8.block _ (by omega)).trans hlim7.out
  have hJa8 : Hid (w8.heap[J1]? = some (.cells (jobA r.1.level (.slice F0 r.1.frm.length f0) (.slice F1 r.1.too.length f1) r.1.bottom) 37 (0, 0))) := (hb8.block _ (by omega)).trans hJa7.out
  have hlv8 := hlv7.below hb8
  have hlvh8 := hlvh7.below hb8
  have hB8 := hB7.trans (hb8.mono (by omega))
  have hrf8 : Hid (RdT w8 4 metaC (.slice F0 r.1.frm.length f0) r.1.frm) := RdT.below hrf7.out hb8
  have hrt8 : Hid (RdT w8 4 metaC (.slice F1 r.1.too.length f1) r.1.too) := RdT.below hrt7.out hb8
  clear hE7 hP7 hS7 hlim7 hlv7 hlvh7 hB7 hJa7 
  have HB8 := Lib.hid hb8
  clear hb8
  have l0 : ∀ o : Obj, (w8.alloc o).cell? ⟨w.heap.size, 0, none⟩ = some (.int .i64 lim.tables) := fun o => by have := new_old (o := o) hlim8.out; simp [World.cell?, this]
  have l1 : ∀ o : Obj, (w8.alloc o).cell? ⟨w.heap.size, 1, none⟩ = some (.int .i64 lim.bytes) := fun o => by have := new_old (o := o) hlim8.out; simp [World.cell?, this]
  have HOF := Lib.hid hof
  have HOT := Lib.hid hot
  clear hof hot
  go_wp2_with fail
  clear l0 l1
  obtain ⟨w9, hw9⟩ : ∃ w9, w9 = w8.alloc (Obj.cells #[.int .i64 r.1.level, .slice G0 r.1.frm.length g0, .slice G1 r.1.too.length g1, .bool r.1.bottom] 42) := ⟨_, rfl⟩
  rw [← hw9]
  have hb89 : Below w8.heap.size w8 w9 := by rw [hw9]; exact (Below.refl _ _).alloc (Nat.le_refl _) _
  obtain ⟨J2, hJ2⟩ : ∃ J2, w8.heap.size = J2 := ⟨_, rfl⟩
  have hJb9 : Hid (w9.heap[J2]? = some (.cells (jobA r.1.level (.slice G0 r.1.frm.length g0) (.slice G1 r.1.too.length g1) r.1.bottom) 42 (0, 0))) := by show _ = _; rw [hw9, ← hJ2]; exact new_at rfl
  have hz9 : w9.heap.size = J2 + 1 := by rw [hw9, ← hJ2]; simp
  clear hw9
  rw [hJ2]
  have hE9 : Hid (w9.heap[E8]? = some (.cells (stA s hf) 33 (0, 0))) := (hb89.block _ (by omega)).trans hE8.out
  have hP9 : Hid (w9.heap[E8 + 1]? = some (.cells #[.int .i64 lim.tables, .int .i64 lim.bytes] 35 (0, 0))) := (hb89.block _ (by omega)).trans hP8.out
  have hS9 : Hid (w9.heap[S7]? = some (.cells (stA s gf) 28 (0, 0))) := (hb89.block _ (by omega)).trans hS8.out
  have hlim9 : Hid (w9.heap[w.heap.size]? = some (.cells #[.int .i64 lim.tables, .int .i64 lim.bytes] 24 (0, 0))) := (hb89.block _ (by omega)).trans hlim8.out
  have hJa9 : Hid (w9.heap[J1]? = some (.cells (jobA r.1.level (.slice F0 r.1.frm.length f0) (.slice F1 r.1.too.length f1) r.1.bottom) 37 (0, 0))) := (hb89.block _ (by omega)).trans hJa8.out
  have hlv9 := hlv8.below hb89
  have hlvh9 := hlvh8.below hb89
  have hB9 := hB8.trans (hb89.mono (by omega))
  have hrf9 : Hid (RdT w9 4 metaC (.slice F0 r.1.frm.length f0) r.1.frm) := RdT.below hrf8.out hb89
  have hrt9 : Hid (RdT w9 4 metaC (.slice F1 r.1.too.length f1) r.1.too) := RdT.below hrt8.out hb89
  clear hE8 hP8 hS8 hlim8 hlv8 hlvh8 hB8 hJa8 
  have hb79 : Below w8.heap.size w8 w9 := hb89
  clear hb89
  have KF := DocFull_calls lim level w9
  have KF2 := fun W => Full_calls lim level W
  obtain ⟨fd, hfd⟩ : ∃ fd, fullD lim level = fd := ⟨_, rfl⟩
  rw [hfd] at KF KF2
  replace KF2 := Lib.hid KF2
  clear hfd
  refine KF.mono ?_
  rintro e w10 ⟨rfl, hb10⟩
  clear KF
  have hs10 := hb10.size
  have hJb10 : Hid (w10.heap[J2]? = some (.cells (jobA r.1.level (.slice G0 r.1.frm.length g0) (.slice G1 r.1.too.length g1) r.1.bottom) 42 (0, 0))) := (hb10.block _ (by omega)).trans hJb9.out
  have hE10 : Hid (w10.heap[E8]? = some (.cells (stA s hf) 33 (0, 0))) := (hb10.block _ (by omega)).trans hE9.out
  have hP10 : Hid (w10.heap[E8 + 1]? = some (.cells #[.int .i64 lim.tables, .int .i64 lim.bytes] 35 (0, 0))) := (hb10.block _ (by omega)).trans hP9.out
  have hS10 : Hid (w10.heap[S7]? = some (.cells (stA s gf) 28 (0, 0))) := (hb10.block _ (by omega)).trans hS9.out
  have hlim10 : Hid (w10.heap[w.heap.size]? = some (.cells #[.int .i64 lim.tables, .int .i64 lim.bytes] 24 (0, 0))) := (hb10.block _ (by omega)).trans hlim9.out
  have hJa10 : Hid (w10.heap[J1]? = some (.cells (jobA r.1.level (.slice F0 r.1.frm.length f0) (.slice F1 r.1.too.length f1) r.1.bottom) 37 (0, 0))) := (hb10.block _ (by omega)).trans hJa9.out
  have hlv10 := hlv9.below hb10
  have hlvh10 := hlvh9.below hb10
  have hB10 := hB9.trans (hb10.mono (by omega))
  have hrf10 : Hid (RdT w10 4 metaC (.slice F0 r.1.frm.length f0) r.1.frm) := RdT.below hrf9.out hb10
  have hrt10 : Hid (RdT w10 4 metaC (.slice F1 r.1.too.length f1) r.1.too) := RdT.below hrt9.out hb10
  clear hE9 hP9 hS9 hlim9 hlv9 hlvh9 hB9 hJa9 
  have hb710 := hb79.trans (hb10.mono (by omega))
  clear hb79 hb10 hJb9
  have l0 : w10.cell? ⟨E8 + 1, 0, none⟩ = some (.int .i64 lim.tables) := by have := hP10.out; simp [World.cell?, this]
  have l1 : w10.cell? ⟨E8 + 1, 1, none⟩ = some (.int .i64 lim.bytes) := by have := hP10.out; simp [World.cell?, this]
  go_wp2_with fail
  refine (KF2.out _).mono ?_
  rintro e w11 ⟨rfl, hb11⟩
  clear KF2 l0 l1
  have hs11 := hb11.size
  have hJb11 : Hid (w11.heap[J2]? = some (.cells (jobA r.1.level (.slice G0 r.1.frm.length g0) (.slice G1 r.1.too.length g1) r.1.bottom) 42 (0, 0))) := (hb11.block _ (by omega)).trans hJb10.out
  have hE11 : Hid (w11.heap[E8]? = some (.cells (stA s hf) 33 (0, 0))) := (hb11.block _ (by omega)).trans hE10.out
  have hP11 : Hid (w11.heap[E8 + 1]? = some (.cells #[.int .i64 lim.tables, .int .i64 lim.bytes] 35 (0, 0))) := (hb11.block _ (by omega)).trans hP10.out
  have hS11 : Hid (w11.heap[S7]? = some (.cells (stA s gf) 28 (0, 0))) := (hb11.block _ (by omega)).trans hS10.out
  have hlim11 : Hid (w11.heap[w.heap.size]? = some (.cells #[.int .i64 lim.tables, .int .i64 lim.bytes] 24 (0, 0))) := (hb11.block _ (by omega)).trans hlim10.out
  have hJa11 : Hid (w11.heap[J1]? = some (.cells (jobA r.1.level (.slice F0 r.1.frm.length f0) (.slice F1 r.1.too.length f1) r.1.bottom) 37 (0, 0))) := (hb11.block _ (by omega)).trans hJa10.out
  have hlv11 := hlv10.below hb11
  have hlvh11 := hlvh10.below hb11
  have hB11 := hB10.trans (hb11.mono (by omega))
  have hrf11 : Hid (RdT w11 4 metaC (.slice F0 r.1.frm.length f0) r.1.frm) := RdT.below hrf10.out hb11
  have hrt11 : Hid (RdT w11 4 metaC (.slice F1 r.1.too.length f1) r.1.too) := RdT.below hrt10.out hb11
  clear hE10 hP10 hS10 hlim10 hlv10 hlvh10 hB10 hJa10 
  have hb711 := hb710.trans (hb11.mono (by omega))
  clear hb710 hb11 hJb10
  go_wp2_with fail
  refine (picks_calls _).mono ?_
  rintro e w12 ⟨rfl, hb12⟩
  have hs12 := hb12.size
  have hJb12 : Hid (w12.heap[J2]? = some (.cells (jobA r.1.level (.slice G0 r.1.frm.length g0) (.slice G1 r.1.too.length g1) r.1.bottom) 42 (0, 0))) := (hb12.block _ (by omega)).trans hJb11.out
  have hE12 : Hid (w12.heap[E8]? = some (.cells (stA s hf) 33 (0, 0))) := (hb12.block _ (by omega)).trans hE11.out
  have hP12 : Hid (w12.heap[E8 + 1]? = some (.cells #[.int .i64 lim.tables, .int .i64 lim.bytes] 35 (0, 0))) := (hb12.block _ (by omega)).trans hP11.out
  have hS12 : Hid (w12.heap[S7]? = some (.cells (stA s gf) 28 (0, 0))) := (hb12.block _ (by omega)).trans hS11.out
  have hlim12 : Hid (w12.heap[w.heap.size]? = some (.cells #[.int .i64 lim.tables, .int .i64 lim.bytes] 24 (0, 0))) := (hb12.block _ (by omega)).trans hlim11.out
  have hJa12 : Hid (w12.heap[J1]? = some (.cells (jobA r.1.level (.slice F0 r.1.frm.length f0) (.slice F1 r.1.too.length f1) r.1.bottom) 37 (0, 0))) := (hb12.block _ (by omega)).trans hJa11.out
  have hlv12 := hlv11.below hb12
  have hlvh12 := hlvh11.below hb12
  have hB12 := hB11.trans (hb12.mono (by omega))
  have hrf12 : Hid (RdT w12 4 metaC (.slice F0 r.1.frm.length f0) r.1.frm) := RdT.below hrf11.out hb12
  have hrt12 : Hid (RdT w12 4 metaC (.slice F1 r.1.too.length f1) r.1.too) := RdT.below hrt11.out hb12
  clear hE11 hP11 hS11 hlim11 hlv11 hlvh11 hB11 hJa11 
  have hb712 := hb711.trans (hb12.mono (by omega))
  clear hb711 hb12 hJb11
  have hof12 := own_below HOF.out hb712 (Nat.le_refl _)
  have hot12 := own_below HOT.out hb712 (Nat.le_refl _)
  have hg0 : Hid (∀ g, (Value.slice G0 r.1.frm.length g0).ownBlock = some g → g < J2) := fun g hg => by have := (HOF.out.lt g hg).2; omega
  have hg1 : Hid (∀ g, (Value.slice G1 r.1.too.length g1).ownBlock = some g → g < J2) := fun g hg => by have := (HOT.out.lt g hg).2; omega
  have hb7 : Below w7.heap.size w7 w12 := HB8.out.trans (hb712.mono (by omega))
  have ho0 := Own4.of_own hof12
  have ho1 := Own4.of_own hot12
  have KSM := Lib.hid (same_calls r.1.level r.1.bottom r.1.frm r.1.too _ _ _ _ w12 (Rd.of_own hof12) (Rd.of_own hot12) hrf12.out hrt12.out HLN.out.1 HLN.out.2)
  obtain ⟨⟨j0, j1, j2, j3⟩, _⟩ := job_cells hJb12.out
  obtain ⟨⟨i0, i1, i2, i3⟩, _⟩ := job_cells hJa12.out
  have hs78 : w7.heap.size ≤ J2 := by omega
  go_wp2_with fail
  refine KSM.out.mono ?_
  rintro e w13 ⟨rfl, hb13⟩
  clear KSM i0 i1 i2 i3 j0 j1 j2 j3 hof12 hot12
  have hs13 := hb13.size
  have hJb13 : Hid (w13.heap[J2]? = some (.cells (jobA r.1.level (.slice G0 r.1.frm.length g0) (.slice G1 r.1.too.length g1) r.1.bottom) 42 (0, 0))) := (hb13.block _ (by omega)).trans hJb12.out
  have hb713 : Hid (Below w7.heap.size w7 w13) := hb7.trans (hb13.mono (by omega))
  have ho0' := Lib.hid (ho0.below hb13)
  have ho1' := Lib.hid (ho1.below hb13)
  have hln0 := HLN.out.1
  have hln1 := HLN.out.2
  clear ho0 ho1 hb13 hb7 hb712 hJb12 hJa12 hE12 hP12 hS12 hlim12 hlv12 hlvh12 hB12 hrf12 hrt12
  go_wp2_with fail
  go_loopw [20] (fun iv wr => ∃ k : Nat, k ≤ r.1.frm.length ∧ iv = .int .i64 (k : Int) ∧ Hid (wr.heap[J2]? = some (.cells (jobA r.1.level (.slice G0 r.1.frm.length g0) (.slice G1 r.1.too.length g1) r.1.bottom) 42 (0, 0))) ∧ Hid (Below w7.heap.size w7 wr) ∧ Hid (Own4 wr w7.heap.size (.slice G0 r.1.frm.length g0) r.1.frm.length) ∧ Hid (Own4 wr w7.heap.size (.slice G1 r.1.too.length g1) r.1.too.length))
    (fun iv _ => r.1.frm.length - (intOf iv).toNat)
  case atStart => exact ⟨0, by omega, rfl, hJb13, hb713, ho0', ho1'⟩
  case round =>
    clear hJb13 hb713 ho0' ho1'
    obtain ⟨k, hk, rfl, hJ, hb, h0, h1⟩ := hrel
    obtain ⟨wa, rfl⟩ : ∃ wa : World, wa = wr := ⟨_, rfl⟩
    obtain ⟨⟨j0, j1, j2, j3⟩, _⟩ := job_cells hJ.out
    by_cases hkl : k < r.1.frm.length
    · have hkl' : (k : Int) < r.1.frm.length := by omega
      have hk0 : (0 : Int) ≤ k := by omega
      obtain ⟨gb, cb, hv, hge, _, hcm, ⟨u, hu⟩, hfr, hall⟩ := h0.out.at hkl
      injection hv with hv1 _ hv2
      subst hv1 hv2
      have hgl := hg0.out gb rfl
      have hne : ∀ v, (wa.setCell ⟨gb, k * 4, none⟩ v).heap[J2]? = wa.heap[J2]? := fun v => Below.heap_setCell _ _ _ _ (by show J2 ≠ gb; omega)
      have hu' : wa.cell? ⟨gb, 0 + k * 4, none⟩ = some u := by rw [Nat.zero_add]; exact hu
      have hfr' : wa.frozen? ⟨gb, 0 + k * 4, none⟩ = false := by rw [Nat.zero_add]; exact hfr
      unfold maxLen at hcm
      replace hne := Lib.hid hne
      replace hall := Lib.hid hall
      go_wp2_with fail
      try (go_quiet (fail); go_wp2_with fail)
      go_roundw
      case rel => exact ⟨k + 1, by omega, by go_num, (hne.out _).trans hJ.out, hb.out.setCell (by show _ ≤ gb; omega) _, h0.out.set _ hall.out, h1.out.set _ hall.out⟩
      case measure => simp [intOf]; omega
    · obtain rfl : k = r.1.frm.length := by omega
      go_wp2_with fail
      clear j0 j1 j2 j3
      go_loopw [21] (fun iv wr => ∃ k : Nat, k ≤ r.1.too.length ∧ iv = .int .i64 (k : Int) ∧ Hid (wr.heap[J2]? = some (.cells (jobA r.1.level (.slice G0 r.1.frm.length g0) (.slice G1 r.1.too.length g1) r.1.bottom) 42 (0, 0))) ∧ Hid (Below w7.heap.size w7 wr) ∧ Hid (Own4 wr w7.heap.size (.slice G1 r.1.too.length g1) r.1.too.length))
        (fun iv _ => r.1.too.length - (intOf iv).toNat)
      case atStart => exact ⟨0, by omega, rfl, hJ, hb, h1⟩
      case round =>
        clear hJ hb h0 h1 hk hkl
        obtain ⟨k, hk, rfl, hJ, hb, h1⟩ := hrel
        obtain ⟨wb, rfl⟩ : ∃ wb : World, wb = wr := ⟨_, rfl⟩
        obtain ⟨⟨j0, j1, j2, j3⟩, _⟩ := job_cells hJ.out
        by_cases hkl : k < r.1.too.length
        · have hkl' : (k : Int) < r.1.too.length := by omega
          have hk0 : (0 : Int) ≤ k := by omega
          obtain ⟨gb, cb, hv, hge, _, hcm, ⟨u, hu⟩, hfr, hall⟩ := h1.out.at hkl
          injection hv with hv1 _ hv2
          subst hv1 hv2
          have hgl := hg1.out gb rfl
          have hne : ∀ v, (wb.setCell ⟨gb, k * 4, none⟩ v).heap[J2]? = wb.heap[J2]? := fun v => Below.heap_setCell _ _ _ _ (by show J2 ≠ gb; omega)
          have hu' : wb.cell? ⟨gb, 0 + k * 4, none⟩ = some u := by rw [Nat.zero_add]; exact hu
          have hfr' : wb.frozen? ⟨gb, 0 + k * 4, none⟩ = false := by rw [Nat.zero_add]; exact hfr
          unfold maxLen at hcm
          replace hne := Lib.hid hne
          replace hall := Lib.hid hall
          go_wp2_with fail
          try (go_quiet (fail); go_wp2_with fail)
          go_roundw
          case rel => exact ⟨k + 1, by omega, by go_num, (hne.out _).trans hJ.out, hb.out.setCell (by show _ ≤ gb; omega) _, h1.out.set _ hall.out⟩
          case measure => simp [intOf]; omega
        · obtain rfl : k = r.1.too.length := by omega
          go_wp2_with fail
          clear j0 j1 j2 j3
          go_loopw [22] (fun iv wr => ∃ k : Nat, k ≤ 4 ∧ iv = .int .i64 (k : Int) ∧ Hid (Below w7.heap.size w7 wr)) (fun iv _ => 4 - (intOf iv).toNat)
          case atStart => exact ⟨0, by omega, rfl, hb⟩
          case round =>
            clear hJ hb h1 hk hkl
            obtain ⟨k, hk, rfl, hb⟩ := hrel
            obtain ⟨wc, rfl⟩ : ∃ wc : World, wc = wr := ⟨_, rfl⟩
            have hsc := hb.out.size
            by_cases hk4 : k < 4
            · have hk4' : (k : Int) < 4 := by omega
              have hk0 : (0 : Int) ≤ k := by omega
              have cE := st_cell ((hb.out.block E8 (by omega)).trans hE7'.out) hk4
              have cS := st_cell ((hb.out.block S7 (by omega)).trans hS7'.out) hk4
              have hlE := lt_of_at ((hb.out.block E8 (by omega)).trans hE7'.out)
              have KS : ∀ W, Below wc.heap.size wc W → W.cell? ⟨E8, 3 + k, none⟩ = some (hf k) ∧ W.cell? ⟨S7, 3 + k, none⟩ = some (gf k) := fun W h => ⟨(below_at h (by omega) _).trans cE, (below_at h (by omega) _).trans cS⟩
              have KM := Lib.hid (fun W (h : Below wc.heap.size wc W) => metas_calls (s.lv k) (hf k) W (((hlvh7'.out k hk4).below hb.out).below h) (HL6.out k hk4))
              have KQ : ∀ W x, Below wc.heap.size wc W → RdT W 4 metaC x (s.lv k) → Calls Try.prog 22 #[x, gf k] W fun e w' => e = .returned (.bool true) ∧ Below W.heap.size W w' := fun W x h hx => by
                have := Metas_calls (s.lv k) (s.lv k) x (gf k) W hx (((hlv7'.out k hk4).below hb.out).below h)
                rwa [sameM_refl] at this
              replace KS := Lib.hid KS
              replace KQ := Lib.hid KQ
              go_wp2_with fail
              go_region_held3 (fun W => W.cell? ⟨E8, 3 + k, none⟩ = some (hf k) ∧ W.cell? ⟨S7, 3 + k, none⟩ = some (gf k))
                (first | (with_reducible exact KS.out _ (Below.refl _ _).drew) | (with_reducible exact KS.out _ hb2) | (with_reducible exact KS.out _ hb1))
                (first
                  | (go_at_call 22; refine (KQ.out _ vm hb1 (Rd.of_own hownm)).mono ?_; rintro e wd2 ⟨rfl, hb2'⟩; have hb2 := hb1.trans (hb2'.mono hb1.size))
                  | (go_at_call 23; refine (KM.out _ (Below.refl _ _).drew).mono ?_; rintro e wd1 ⟨vm, rfl, hownm, hb1'⟩; have hb1 := (Below.refl wc.heap.size wc).drew.trans hb1'))
              clear cE cS
              have hbf := hb.out.trans (hb2.mono hsc)
              replace hb2 := Lib.hid hb2
              replace hb1 := Lib.hid hb1
              go_wp2_with fail
              go_roundw
              case rel => exact ⟨k + 1, by omega, by go_num, hbf⟩
              case measure => simp [intOf]; omega
            · obtain rfl : k = 4 := by omega
              go_wp2_with fail
              go_ret
              exact ⟨rfl, hB7'.out.trans (hb.out.mono hB7'.out.size)⟩
end Go.Proofs.Ytheanmfdfoefoaa
