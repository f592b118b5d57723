/- Chapter 12's statement EpochKeeps, by the walk over a heap. -/
import Derived.Test.YtndojmpgadbefaaEpKeP
import Derived.Test.YtndojmpgadbefaaEpDay
import Derived.Test.YtndojmpgadbefaaByS
set_option linter.unusedVariables false
set_option linter.unusedSimpArgs false
namespace Go.Proofs.Ytndojmpgadbefaa
open Go Go.RowKit Hv
set_option maxRecDepth 20000
set_option maxHeartbeats 4000000
def noteI (x : NoteD) : List AV := [.lit (.int .i64 (x.ep : Int)), .lit (.int .i64 (x.reg : Int)), .lit (.int .i64 (x.gen : Int)), .lit (.int .i64 (x.off : Int)), .lit (.int .i64 (x.len : Int))]
def gazeI (g : GazeD) : List AV := [.lit (.int .i64 (g.pin : Int)), .lit (.int .i64 (g.from' : Int)), .lit (.bool g.there)]
def textI (t : ByteArray) : List AV := [.lit (.string t)]
theorem isOldest_ex (D : EpD) : ∃ z, IsOldest D z := by
  have key : ∀ (l : List (Ent Int Int)) (now : Int), ∃ z, z ≤ now ∧ (∀ x ∈ l, z ≤ x.val) ∧ (z = now ∨ ∃ x ∈ l, z = x.val) := by
    intro l
    induction l with
    | nil => intro now; exact ⟨now, Int.le_refl _, fun x hx => absurd hx List.not_mem_nil, .inl rfl⟩
    | cons a l ih =>
      intro now
      obtain ⟨z, h1, h2, h3⟩ := ih now
      by_cases ha : a.val < z
      · refine ⟨a.val, by omega, fun x hx => ?_, .inr ⟨a, List.mem_cons_self, rfl⟩⟩
        rcases List.mem_cons.1 hx with rfl | hx
        · exact Int.le_refl _
        · have := h2 x hx; omega
      · refine ⟨z, h1, fun x hx => ?_, ?_⟩
        · rcases List.mem_cons.1 hx with rfl | hx
          · omega
          · exact h2 x hx
        · rcases h3 with h3 | ⟨x, hx, h3⟩
          · exact .inl h3
          · exact .inr ⟨x, List.mem_cons_of_mem _ hx, h3⟩
  obtain ⟨z, h1, h2, h3⟩ := key D.pins D.now
  exact ⟨z, h1, h2, h3⟩
/-- What the law has in memory: epochs, gazes, notes, texts. -/
structure KepH (H : Hp) (n : Nat) (S : Nat → Prop) (e : Nat) (N : EpN) (D : EpD) (G : List GazeD) (X : List NoteD) (T : List ByteArray) (gg gx gt : Nat) : Prop where
  h : EpH H n S e N D
  rg : H gg = some (.row true 74 (G.map gazeI))
  ng : gg < n
  sg : ¬ S gg
  rx : H gx = some (.row false 51 (X.map noteI))
  nx : gx < n
  sx : ¬ S gx
  rt : H gt = some (.row false 9 (T.map textI))
  nt : gt < n
  st : ¬ S gt
section
variable {H H' : Hp} {n n' e gg gx gt : Nat} {S S' : Nat → Prop} {N N' : EpN} {D D' : EpD} {G : List GazeD} {X : List NoteD} {T : List ByteArray}
theorem KepH.post (h : KepH H n S e N D G X T gg gx gt) (h' : EpH H' n' S' e N' D') (hn : n ≤ n') (k : ∀ j, j < n → ¬ S j → H' j = H j ∧ ¬ S' j) : KepH H' n' S' e N' D' G X T gg gx gt :=
  ⟨h', (k _ h.ng h.sg).1.trans h.rg, Nat.lt_of_lt_of_le h.ng hn, (k _ h.ng h.sg).2, (k _ h.nx h.sx).1.trans h.rx, Nat.lt_of_lt_of_le h.nx hn, (k _ h.nx h.sx).2, (k _ h.nt h.st).1.trans h.rt, Nat.lt_of_lt_of_le h.nt hn, (k _ h.nt h.st).2⟩
theorem KepH.same (h : KepH H n S e N D G X T gg gx gt) (hn : n ≤ n') (k : ∀ j, j < n → H' j = H j) : KepH H' n' S e N D G X T gg gx gt :=
  h.post (h.h.frame hn fun j hj => k j (h.h.lt j hj)) hn fun j hj hs => ⟨k j hj, hs⟩
theorem KepH.nes (h : KepH H n S e N D G X T gg gx gt) : gg ≠ gx ∧ gg ≠ gt ∧ gx ≠ gt :=
  ⟨heap_ne h.rg h.rx (by intro e; injection e with e; cases e), heap_ne h.rg h.rt (by intro e; injection e with e; cases e), heap_ne h.rx h.rt (by intro e; injection e with _ e; exact absurd e (by decide))⟩
/-- Gazes are others. -/
theorem KepH.gaze (h : KepH H n S e N D G X T gg gx gt) {g2 : Nat} {G2 : List GazeD} (hn : n ≤ n') (hg : H' g2 = some (.row true 74 (G2.map gazeI))) (hgn : g2 < n') (hgS : ¬ S g2) (k : ∀ j, j < n → j ≠ gg → H' j = H j) : KepH H' n' S e N D G2 X T g2 gx gt :=
  have q : ∀ j, S j → j ≠ gg := fun j hj e => h.sg (e ▸ hj)
  ⟨h.h.frame hn fun j hj => k j (h.h.lt j hj) (q j hj), hg, hgn, hgS, (k _ h.nx (Ne.symm h.nes.1)).trans h.rx, Nat.lt_of_lt_of_le h.nx hn, h.sx, (k _ h.nt (Ne.symm h.nes.2.1)).trans h.rt, Nat.lt_of_lt_of_le h.nt hn, h.st⟩
/-- A note and a text more. -/
theorem KepH.more (h : KepH H n S e N D G X T gg gx gt) {x2 t2 : Nat} {X2 : List NoteD} {T2 : List ByteArray} (hn : n ≤ n') (hx : H' x2 = some (.row false 51 (X2.map noteI))) (hxn : x2 < n') (hxS : ¬ S x2)
    (ht : H' t2 = some (.row false 9 (T2.map textI))) (htn : t2 < n') (htS : ¬ S t2) (k : ∀ j, j < n → j ≠ gx → j ≠ gt → H' j = H j) : KepH H' n' S e N D G X2 T2 gg x2 t2 :=
  ⟨h.h.frame hn fun j hj => k j (h.h.lt j hj) (fun e => h.sx (e ▸ hj)) (fun e => h.st (e ▸ hj)), (k _ h.ng h.nes.1 h.nes.2.1).trans h.rg, Nat.lt_of_lt_of_le h.ng hn, h.sg, hx, hxn, hxS, ht, htn, htS⟩
end
theorem EpochKeeps_h (row : List DayD) : Hv.ACalls Try.prog 4 [.sl (row.map dayI)] (.lit (.bool true)) := by
  refine acallsC_of (rs := [.tmp 2]) ⟨[0, 2, 3, 4, 5, 6, 7, 8, 9, 10, 11, 12, 13, 15, 17, 18, 19, 20, 21, 22, 23, 24, 26, 32, 39, 47, 55, 72, 74, 83, 91, 99, 103, 125, 130, 138, 141, 149, 153, 171, 193], [6, 98], [], [(33, [(0, [], []), (1, [], []), (2, [], []), (3, [], []), (4, [], []), (5, [], []), (8, [], []), (9, [], []), (10, [], []), (11, [], []), (12, [], []), (6, [10, 12], [0, 5, 4, 3, 1, 2]), (7, [], []), (13, [], [])]), (51, [(0, [], []), (1, [], []), (2, [], []), (3, [], []), (4, [], []), (5, [], []), (6, [], []), (7, [], []), (8, [], []), (9, [], []), (10, [], [])])], [25, 44]⟩ TOk mixed Try.func4 rfl rfl (by kernel_rfl) (by kernel_rfl) rfl (by simp [noId_days]) (.lit _) ?_
  simp only [push_cast, Nat.reduceBEq, Nat.reduceAdd, Nat.reduceEqDiff, reduceCtorEq, Nat.reduceLeDiff, Nat.reduceSub, Nat.reduceMul, Nat.reduceLT, Int.reduceEq, Int.reduceLT, Int.reduceLE, Int.reduceBEq, Int.reduceBNe, Int.reduceToNat, Int.reduceNeg, Int.reduceSub, Int.reduceAdd]
  refine callH ages_h ?_
  rintro _ H0 n0 ⟨rfl, hn0, _⟩
  simp only [push_cast, Nat.reduceBEq, Nat.reduceAdd, Nat.reduceEqDiff, reduceCtorEq, Nat.reduceLeDiff, Nat.reduceSub, Nat.reduceMul, Nat.reduceLT, Int.reduceEq, Int.reduceLT, Int.reduceLE, Int.reduceBEq, Int.reduceBNe, Int.reduceToNat, Int.reduceNeg, Int.reduceSub, Int.reduceAdd]
  refine callH (newPool_c (size := 512) (K := 200) (by decide) (by decide) (by decide) (by decide)) ?_
  rintro _ H1 n1 ⟨p, S1, rfl, hp1, hn1, hS1, k1⟩
  simp only [push_cast, Nat.reduceBEq, Nat.reduceAdd, Nat.reduceEqDiff, reduceCtorEq, Nat.reduceLeDiff, Nat.reduceSub, Nat.reduceMul, Nat.reduceLT, Int.reduceEq, Int.reduceLT, Int.reduceLE, Int.reduceBEq, Int.reduceBNe, Int.reduceToNat, Int.reduceNeg, Int.reduceSub, Int.reduceAdd]
  refine callH (newEp_c hp1 (l := landZ) rfl rfl (by decide)) ?_
  rintro _ H2 n2 ⟨e, S2, rfl, ⟨N2, h2, hN2⟩, hn2, k2⟩
  obtain ⟨D0, hD0⟩ : ∃ D, D = (epZ (poolZ 512 200)).adv 0 landZ := ⟨_, rfl⟩
  rw [← hD0] at h2
  have hI0 : KepI 0 D0 [] [] [] := by rw [hD0]; exact kepI_first
  clear hD0
  simp only [push_cast, Nat.reduceBEq, Nat.reduceAdd, Nat.reduceEqDiff, reduceCtorEq, Nat.reduceLeDiff, Nat.reduceSub, Nat.reduceMul, Nat.reduceLT, Int.reduceEq, Int.reduceLT, Int.reduceLE, Int.reduceBEq, Int.reduceBNe, Int.reduceToNat, Int.reduceNeg, Int.reduceSub, Int.reduceAdd]
  have hK0 : KepH (upd (upd (upd H2 n2 (some (AO.row true 74 []))) (n2 + 1) (some (AO.row false 51 []))) (n2 + 1 + 1) (some (AO.row false 9 []))) (n2 + 1 + 1 + 1) S2 e N2 D0 [] [] [] n2 (n2 + 1) (n2 + 1 + 1) := by
    have hl : ∀ m, n2 ≤ m → ¬ S2 m := fun m hm hs => by have := h2.lt m hs; omega
    refine ⟨h2.frame (by omega) fun j hj => ?_, ?_, by omega, hl _ (by omega), ?_, by omega, hl _ (by omega), upd_same _ _ _, by omega, hl _ (by omega)⟩
    · have := h2.lt j hj
      rw [upd_other (by omega), upd_other (by omega), upd_other (by omega)]
    · rw [upd_other (by omega), upd_other (by omega), upd_same]; rfl
    · rw [upd_other (by omega), upd_same]; rfl
  refine loopK (fun q s => ∃ (i : Nat) (H4 : Hp) (n4 : Nat) (S4 : Nat → Prop) (N4 : EpN) (D : EpD) (G : List GazeD) (X : List NoteD) (T : List ByteArray) (gg gx gt : Nat), s = ⟨[(0, .sl (row.map dayI)), (5, .ptr e 0), (6, .rw gg 3 0 G.length), (7, .rw gx 5 0 X.length), (8, .rw gt 1 0 T.length), (9, .lit (.int .i64 (i : Int)))], H4, n4⟩ ∧ i ≤ 120 ∧ q = 120 - i ∧ KepH H4 n4 S4 e N4 D G X T gg gx gt ∧ KepI i D G X T) _ [0, 5, 6, 7, 8, 9]
    ⟨0, _, _, S2, N2, D0, [], [], [], n2, n2 + 1, n2 + 1 + 1, rfl, by omega, rfl, hK0, hI0⟩ ?_
  rintro q _ ⟨i, H4, n4, S4, N4, D, G, X, T, gg, gx, gt, rfl, hi, rfl, h4, hI⟩
  by_cases hend : i < row.length ∧ i < 120
  · obtain ⟨hir, hi120⟩ := hend
    have hir' : (i : Int) < (row.length : Int) := by omega
    have hi' : (i : Int) < 120 := by omega
    obtain ⟨d, hd⟩ : ∃ d, row[i]? = some d := ⟨_, List.getElem?_eq_getElem hir⟩
    have hwi := wrap_nat0 (k := i) (by omega)
    have hnowB := hI.nowB
    have hlast := hI.last
    have hgB := hI.gB
    have hXi := hI.xl
    have hTl := hI.tl
    have kn := h4.h.pnOk.keys
    have hcnt := hI.w.ok.cnt
    have hlo1 := hI.w.ok.pos.1
    simp only [push_cast, Nat.reduceBEq, Nat.reduceAdd, Nat.reduceEqDiff, reduceCtorEq, Nat.reduceLeDiff, Nat.reduceSub, Nat.reduceMul, Nat.reduceLT, Int.reduceEq, Int.reduceLT, Int.reduceLE, Int.reduceBEq, Int.reduceBNe, Int.reduceToNat, Int.reduceNeg, Int.reduceSub, Int.reduceAdd, hir, hir', hi', hd, dayI]
    refine cutK (fun s => ∃ (H5 : Hp) (n5 : Nat) (S5 : Nat → Prop) (N5 : EpN) (D : EpD) (G : List GazeD) (X : List NoteD) (T : List ByteArray) (gg gx gt : Nat), s = ⟨[(0, .sl (row.map dayI)), (5, .ptr e 0), (6, .rw gg 3 0 G.length), (7, .rw gx 5 0 X.length), (8, .rw gt 1 0 T.length), (9, .lit (.int .i64 (i : Int)))], H5, n5⟩ ∧ KepH H5 n5 S5 e N5 D G X T gg gx gt ∧ KepI (i + 1) D G X T) [0, 5, 6, 7, 8, 9] ?_ ?_
    · simp only [push_cast, Nat.reduceBEq, Nat.reduceAdd, Nat.reduceEqDiff, reduceCtorEq, Nat.reduceLeDiff, Nat.reduceSub, Nat.reduceMul, Nat.reduceLT, Int.reduceEq, Int.reduceLT, Int.reduceLE, Int.reduceBEq, Int.reduceBNe, Int.reduceToNat, Int.reduceNeg, Int.reduceSub, Int.reduceAdd, hir, hir', hi', hd, dayI]
      refine cutK (fun s => ∃ (H5 : Hp), s = ⟨[(0, .sl (row.map dayI)), (5, .ptr e 0), (6, .rw gg 3 0 G.length), (7, .rw gx 5 0 X.length), (8, .rw gt 1 0 T.length), (9, .lit (.int .i64 (i : Int))), (10, .ptr n4 0), (55, .lit (.int .i64 d.call))], H5, n4 + 1⟩ ∧ H5 n4 = some (.cells [.lit (.int .i64 d.call), .lit (.int .i64 d.n), .lit (.int .i64 d.by'), .lit (.string d.data)]) ∧ KepH H5 (n4 + 1) S4 e N4 D G X T gg gx gt) [0, 5, 6, 7, 8, 9, 10, 55] ?_ ?_
      · simp only [push_cast, Nat.reduceBEq, Nat.reduceAdd, Nat.reduceEqDiff, reduceCtorEq, Nat.reduceLeDiff, Nat.reduceSub, Nat.reduceMul, Nat.reduceLT, Int.reduceEq, Int.reduceLT, Int.reduceLE, Int.reduceBEq, Int.reduceBNe, Int.reduceToNat, Int.reduceNeg, Int.reduceSub, Int.reduceAdd, hir, hir', hi', hd, dayI]
        exact ⟨_, rfl, upd_same _ _ _, h4.same (by omega) fun j hj => by rw [upd_other (by omega), upd_other (by omega)]⟩
      rintro _ ⟨H4, rfl, hD4, h4⟩
      by_cases hc1 : d.call = 1
      · have hfew := hI.w.ok.pinsFew kn
        simp only [push_cast, Nat.reduceBEq, Nat.reduceAdd, Nat.reduceEqDiff, reduceCtorEq, Nat.reduceLeDiff, Nat.reduceSub, Nat.reduceMul, Nat.reduceLT, Int.reduceEq, Int.reduceLT, Int.reduceLE, Int.reduceBEq, Int.reduceBNe, Int.reduceToNat, Int.reduceNeg, Int.reduceSub, Int.reduceAdd, hc1]
        refine callH (pin_c h4.h hI.now1 (by omega) (by omega)) ?_
        rintro _ H6 n6 ⟨rfl, S6, ⟨N6, h6, hN6⟩, hn6, k6⟩
        have hn6 : n4 + 1 ≤ n6 := hn6
        have e1 : (n6 == gg) = false := nb (by have := h4.ng; omega)
        have e2 : (gg == n6) = false := nb (by have := h4.ng; omega)
        have h6k := h4.post h6 hn6 k6
        have hg6 := h6k.rg
        have q24 : (G.length + 1) * 24 ≤ 140737488355328 := by omega
        simp only [push_cast, Nat.reduceBEq, Nat.reduceAdd, Nat.reduceEqDiff, reduceCtorEq, Nat.reduceLeDiff, Nat.reduceSub, Nat.reduceMul, Nat.reduceLT, Int.reduceEq, Int.reduceLT, Int.reduceLE, Int.reduceBEq, Int.reduceBNe, Int.reduceToNat, Int.reduceNeg, Int.reduceSub, Int.reduceAdd, hg6, e1, e2, q24, List.length_map]
        have hpe : G.length + 1 = (G ++ [(⟨D.last + 1, X.length, true⟩ : GazeD)]).length := by rw [List.length_append]; rfl
        rw [hpe]
        refine ⟨_, _, S6, N6, _, G ++ [⟨D.last + 1, X.length, true⟩], X, T, n6 + 1, gx, gt, rfl, h6k.gaze (by omega) ?_ (by omega) (fun hs => by have := h6.lt _ hs; omega) (fun j hj hne => ?_), hI.pinned h6.ok⟩
        · rw [upd_same, List.map_append]; rfl
        · rw [upd_other (by omega), upd_other (Ne.symm hne), upd_other (by omega)]
      have hcb1 : (d.call == 1) = false := beq_eq_false_iff_ne.2 hc1
      by_cases hc2 : d.call = 2
      · by_cases hG0 : G.length = 0
        · have hG0' : (G.length : Int) = 0 := by omega
          simp only [push_cast, Nat.reduceBEq, Nat.reduceAdd, Nat.reduceEqDiff, reduceCtorEq, Nat.reduceLeDiff, Nat.reduceSub, Nat.reduceMul, Nat.reduceLT, Int.reduceEq, Int.reduceLT, Int.reduceLE, Int.reduceBEq, Int.reduceBNe, Int.reduceToNat, Int.reduceNeg, Int.reduceSub, Int.reduceAdd, hcb1, hc2, hG0', hG0, show ¬ (0 : Int) > 0 by decide]
          exact ⟨_, _, S4, N4, D, G, X, T, gg, gx, gt, by rw [hG0], h4, hI.up⟩
        · obtain ⟨m, hm, hm1, hm2⟩ := u64_mod d.n (K := G.length) (by omega) (by omega)
          have hgp : (G.length : Int) > 0 := by omega
          have hup : IntKind.u64.wrap (G.length : Int) = (G.length : Int) := by simp [IntKind.wrap, IntKind.bits, IntKind.signed]; omega
          have hne : ¬ (G.length : Int) = 0 := by omega
          have hml : (m : Int) < (G.length : Int) := by omega
          obtain ⟨g, hg⟩ : ∃ g, G[m]? = some g := ⟨_, List.getElem?_eq_getElem hm⟩
          have hrg := h4.rg
          have hgm : (G.map gazeI)[m]? = some [.lit (.int .i64 (g.pin : Int)), .lit (.int .i64 (g.from' : Int)), .lit (.bool g.there)] := by rw [List.getElem?_map, hg]; rfl
          have hpin := hI.pin m g hg
          rcases hI.look kn hg with ⟨hgt, hlk⟩ | ⟨hgt, v, hlk⟩
          · have hGs := hI.gone hg hgt
            rw [← hpin] at hlk
            simp only [push_cast, Nat.reduceBEq, Nat.reduceAdd, Nat.reduceEqDiff, reduceCtorEq, Nat.reduceLeDiff, Nat.reduceSub, Nat.reduceMul, Nat.reduceLT, Int.reduceEq, Int.reduceLT, Int.reduceLE, Int.reduceBEq, Int.reduceBNe, Int.reduceToNat, Int.reduceNeg, Int.reduceSub, Int.reduceAdd, hcb1, hc2, hD4, hgp, hm1, hm2, hup, hne, hml, hrg, hgm]
            refine callHD (unpin_no h4.h hlk) ?_
            rintro _ H6 n6 ⟨rfl, hn6, k6⟩
            have hn6 : n4 + 1 ≤ n6 := hn6
            have h6k := h4.same (n' := n6) hn6 k6
            have hg6 := h6k.rg
            rw [Hv.contD_at]
            refine ⟨by simp only [push_cast, Nat.reduceBEq, Nat.reduceAdd, Nat.reduceEqDiff, reduceCtorEq, Nat.reduceLeDiff, Nat.reduceSub, Nat.reduceMul, Nat.reduceLT, Int.reduceEq, Int.reduceLT, Int.reduceLE, Int.reduceBEq, Int.reduceBNe, Int.reduceToNat, Int.reduceNeg, Int.reduceSub, Int.reduceAdd, hg6, hml, hgm], ?_⟩
            simp only [push_cast, Nat.reduceBEq, Nat.reduceAdd, Nat.reduceEqDiff, reduceCtorEq, Nat.reduceLeDiff, Nat.reduceSub, Nat.reduceMul, Nat.reduceLT, Int.reduceEq, Int.reduceLT, Int.reduceLE, Int.reduceBEq, Int.reduceBNe, Int.reduceToNat, Int.reduceNeg, Int.reduceSub, Int.reduceAdd, hg6, hml, hgm, hgt]
            have hset : (G.map gazeI).set m [.lit (.int .i64 (g.pin : Int)), .lit (.int .i64 (g.from' : Int)), .lit (.bool false)] = G.map gazeI := set_same (by rw [hgm, hgt])
            rw [hset]
            exact ⟨_, _, S4, N4, D, G, X, T, gg, gx, gt, rfl, h6k.gaze (Nat.le_refl _) (upd_same _ _ _) h6k.ng h6k.sg (fun j hj hne => upd_other (Ne.symm hne)), hI.up⟩
          · rw [← hpin] at hlk
            simp only [push_cast, Nat.reduceBEq, Nat.reduceAdd, Nat.reduceEqDiff, reduceCtorEq, Nat.reduceLeDiff, Nat.reduceSub, Nat.reduceMul, Nat.reduceLT, Int.reduceEq, Int.reduceLT, Int.reduceLE, Int.reduceBEq, Int.reduceBNe, Int.reduceToNat, Int.reduceNeg, Int.reduceSub, Int.reduceAdd, hcb1, hc2, hD4, hgp, hm1, hm2, hup, hne, hml, hrg, hgm]
            refine callHD (unpin_c h4.h hlk) ?_
            rintro _ H6 n6 ⟨rfl, S6, ⟨N6, h6, hN6⟩, hn6, k6⟩
            have hn6 : n4 + 1 ≤ n6 := hn6
            have h6k := h4.post h6 hn6 k6
            have hg6 := h6k.rg
            rw [Hv.contD_at]
            refine ⟨by simp only [push_cast, Nat.reduceBEq, Nat.reduceAdd, Nat.reduceEqDiff, reduceCtorEq, Nat.reduceLeDiff, Nat.reduceSub, Nat.reduceMul, Nat.reduceLT, Int.reduceEq, Int.reduceLT, Int.reduceLE, Int.reduceBEq, Int.reduceBNe, Int.reduceToNat, Int.reduceNeg, Int.reduceSub, Int.reduceAdd, hg6, hml, hgm], ?_⟩
            simp only [push_cast, Nat.reduceBEq, Nat.reduceAdd, Nat.reduceEqDiff, reduceCtorEq, Nat.reduceLeDiff, Nat.reduceSub, Nat.reduceMul, Nat.reduceLT, Int.reduceEq, Int.reduceLT, Int.reduceLE, Int.reduceBEq, Int.reduceBNe, Int.reduceToNat, Int.reduceNeg, Int.reduceSub, Int.reduceAdd, hg6, hml, hgm, hgt]
            have hI6 := hI.unpin kn hg (by rw [← hpin]; exact h6.ok)
            have hset : (G.map gazeI).set m [.lit (.int .i64 (g.pin : Int)), .lit (.int .i64 (g.from' : Int)), .lit (.bool false)] = (G.set m ⟨g.pin, g.from', false⟩).map gazeI := by rw [List.map_set]; rfl
            have hsl : G.length = (G.set m ⟨g.pin, g.from', false⟩).length := by rw [List.length_set]
            rw [hset, hsl]
            exact ⟨_, _, S6, N6, _, G.set m ⟨g.pin, g.from', false⟩, X, T, gg, gx, gt, rfl, h6k.gaze (Nat.le_refl _) (upd_same _ _ _) h6k.ng h6k.sg (fun j hj hne => upd_other (Ne.symm hne)), by rw [← hpin] at hI6; exact hI6⟩
      · have hll : D.pool.lands.length = 256 := hI.w.pk.ll
        by_cases hc5 : d.call = 5
        · obtain ⟨fi, fl, hf1, hf2, hf3, hf4⟩ := hI.w.x.free hll (by omega)
          simp only [push_cast, Nat.reduceBEq, Nat.reduceAdd, Nat.reduceEqDiff, reduceCtorEq, Nat.reduceLeDiff, Nat.reduceSub, Nat.reduceMul, Nat.reduceLT, Int.reduceEq, Int.reduceLT, Int.reduceLE, Int.reduceBEq, Int.reduceBNe, Int.reduceToNat, Int.reduceNeg, Int.reduceSub, Int.reduceAdd, hcb1, hc5]
          refine callH (advance_c h4.h hf1 hf2 hf3 (by omega) (by omega)) ?_
          rintro _ H6 n6 ⟨rfl, S6, ⟨N6, h6, hN6⟩, hn6, k6⟩
          have hn6 : n4 + 1 ≤ n6 := hn6
          simp only [push_cast, Nat.reduceBEq, Nat.reduceAdd, Nat.reduceEqDiff, reduceCtorEq, Nat.reduceLeDiff, Nat.reduceSub, Nat.reduceMul, Nat.reduceLT, Int.reduceEq, Int.reduceLT, Int.reduceLE, Int.reduceBEq, Int.reduceBNe, Int.reduceToNat, Int.reduceNeg, Int.reduceSub, Int.reduceAdd]
          exact ⟨_, _, S6, N6, _, G, X, T, gg, gx, gt, rfl, h4.post h6 hn6 k6, hI.adv hf1 hf2 (by omega)⟩
        · by_cases hc6 : d.call = 6
          · obtain ⟨z, hz⟩ := isOldest_ex D
            have hzl := hz.le
            obtain ⟨c, hc, hcl⟩ : ∃ c : Nat, ((D.lo : Int) + c = z ∨ (z ≤ D.lo ∧ c = 0)) ∧ c < D.eras.length := by
              have hnn := hI.now1
              by_cases hzz : z ≤ D.lo
              · refine ⟨0, .inr ⟨hzz, rfl⟩, ?_⟩
                rcases hI.w.ok.pos.2 with h0 | h0
                · omega
                · exact List.length_pos_iff.2 h0
              · exact ⟨(z - D.lo).toNat, .inl (by omega), by omega⟩
            simp only [push_cast, Nat.reduceBEq, Nat.reduceAdd, Nat.reduceEqDiff, reduceCtorEq, Nat.reduceLeDiff, Nat.reduceSub, Nat.reduceMul, Nat.reduceLT, Int.reduceEq, Int.reduceLT, Int.reduceLE, Int.reduceBEq, Int.reduceBNe, Int.reduceToNat, Int.reduceNeg, Int.reduceSub, Int.reduceAdd, hcb1, hc6]
            refine callH (collect_c h4.h hI.now1 hz hc) ?_
            rintro _ H6 n6 ⟨rfl, S6, ⟨N6, h6, hN6⟩, hn6, k6⟩
            have hn6 : n4 + 1 ≤ n6 := hn6
            simp only [push_cast, Nat.reduceBEq, Nat.reduceAdd, Nat.reduceEqDiff, reduceCtorEq, Nat.reduceLeDiff, Nat.reduceSub, Nat.reduceMul, Nat.reduceLT, Int.reduceEq, Int.reduceLT, Int.reduceLE, Int.reduceBEq, Int.reduceBNe, Int.reduceToNat, Int.reduceNeg, Int.reduceSub, Int.reduceAdd]
            exact ⟨_, _, S6, N6, _, G, X, T, gg, gx, gt, rfl, h4.post h6 hn6 k6, hI.collect hz hc hcl⟩
          · have hcb2 : (d.call == 2) = false := beq_eq_false_iff_ne.2 hc2
            have hcb5 : (d.call == 5) = false := beq_eq_false_iff_ne.2 hc5
            have hcb6 : (d.call == 6) = false := beq_eq_false_iff_ne.2 hc6
            obtain ⟨mn, hmn, hmn1, hmn2⟩ : ∃ mn : Nat, (if (100 : Int) < (d.data.size : Int) then (100 : Int) else (d.data.size : Int)) = (mn : Int) ∧ mn ≤ 100 ∧ mn ≤ d.data.size := by
              by_cases h : (100 : Int) < (d.data.size : Int)
              · exact ⟨100, by rw [if_pos h]; rfl, Nat.le_refl _, by omega⟩
              · exact ⟨d.data.size, by rw [if_neg h], by omega, Nat.le_refl _⟩
            have hcut : ((0 : Int) ≤ 0 ∧ (0 : Int) ≤ (mn : Int) ∧ (mn : Int) ≤ (d.data.size : Int)) = True := eq_true (by omega)
            have hcut2 : ((0 : Int) ≤ (mn : Int) ∧ (mn : Int) ≤ (d.data.size : Int)) = True := eq_true (by omega)
            have hxs : (d.data.extract 0 mn).size = mn := by rw [ByteArray.size_extract]; omega
            have hadd : (9223372036854775807 < ByteArray.size ⟨#[116]⟩ + (d.data.extract 0 mn).size) = False := eq_false (by rw [hxs]; show ¬ 9223372036854775807 < 1 + mn; omega)
            obtain ⟨u, hu⟩ : ∃ u : ByteArray, (⟨#[116]⟩ : ByteArray) ++ d.data.extract 0 mn = u := ⟨_, rfl⟩
            obtain ⟨b, hb⟩ : ∃ b, u.data.toList = b := ⟨_, rfl⟩
            have hsz : u.size = b.length := by rw [← hb]; exact (Array.length_toList ..).symm
            have hb1 : b.length = 1 + mn := by
              rw [← hsz, ← hu, ByteArray.size_append, hxs]
              rfl
            have hbA : bytesA u = b.map byteA := by unfold bytesA; rw [hb]
            have hus : Nat.ble b.length 140737488355328 = true := by rw [Nat.ble_eq]; omega
            obtain ⟨k, hk, hkl⟩ : ∃ k, D.lo + k = D.now ∧ k < D.eras.length := by
              have hnn := hI.now1
              rcases hI.w.ok.pos.2 with h0 | h0
              · omega
              · have := List.length_pos_iff.2 h0
                exact ⟨D.now - D.lo, by omega, by omega⟩
            obtain ⟨r, hr⟩ : ∃ r, D.eras[k]? = some r := ⟨_, List.getElem?_eq_getElem hkl⟩
            obtain ⟨l, hl, ht⟩ := hI.w.ok.reg r (List.mem_of_getElem? hr)
            obtain ⟨hll2, hbb, hR⟩ := hI.retire (by omega) hb hk hr hl ht (by omega) (by omega)
            have h4b : KepH (upd H4 (n4 + 1) (some (.row false 5 (b.map byteA)))) (n4 + 1 + 1) S4 e N4 D G X T gg gx gt := h4.same (by omega) fun j hj => upd_other (by omega)
            have hn4S : ¬ S4 (n4 + 1) := fun hs => by have := h4.h.lt _ hs; omega
            have c0 : (n4 + 1 == n4) = false := nb (by omega)
            simp only [push_cast, Nat.reduceBEq, Nat.reduceAdd, Nat.reduceEqDiff, reduceCtorEq, Nat.reduceLeDiff, Nat.reduceSub, Nat.reduceMul, Nat.reduceLT, Int.reduceEq, Int.reduceLT, Int.reduceLE, Int.reduceBEq, Int.reduceBNe, Int.reduceToNat, Int.reduceNeg, Int.reduceSub, Int.reduceAdd, hcb1, hcb2, hcb5, hcb6, hD4, hmn, hcut, hcut2, hmn2, hadd, hu, hsz, hbA, hus, c0, Nat.sub_zero, Int.toNat_natCast]
            rcases hR with ha | ⟨d', o, s0, l', ha, hpk, hgen, hs0, hls, hnew, hI2⟩
            · refine callH (retire_bad h4b.h (g := n4 + 1) hk hr hl hll2 (by omega) (.inr rfl) ha) ?_
              rintro _ H6 n6 ⟨rfl, _⟩
              unfold note0
              simp only [push_cast, Nat.reduceBEq, Nat.reduceAdd, Nat.reduceEqDiff, reduceCtorEq, Nat.reduceLeDiff, Nat.reduceSub, Nat.reduceMul, Nat.reduceLT, Int.reduceEq, Int.reduceLT, Int.reduceLE, Int.reduceBEq, Int.reduceBNe, Int.reduceToNat, Int.reduceNeg, Int.reduceSub, Int.reduceAdd]
            · refine callH (retire_c h4b.h (g := n4 + 1) hk hr hl hll2 (by omega) ha hpk hgen hs0 hls (m0 := false) (e0 := 5) (upd_same _ _ _) (Nat.lt_succ_self _) hn4S hnew hbb) ?_
              rintro _ H6 n6 ⟨rfl, S6, ⟨N6, h6, hN6⟩, hn6, k6⟩
              have hn6 : n4 + 1 + 1 ≤ n6 := hn6
              have h6k := h4b.post h6 hn6 k6
              have hpk2 : PoolOk (d'.stored s0 (o % d'.size) b) := by obtain ⟨_, pp, _⟩ := h6.pool; exact pp.ok
              have hI3 := hI2 hpk2
              have hx6 := h6k.rx
              have ht6 := h6k.rt
              have hnx := h6k.nx
              have hnt := h6k.nt
              have hxt := h6k.nes.2.2
              unfold noteA
              have c1 : (n6 + 1 == gx) = false := nb (by omega)
              have c2 : (gx == n6 + 1) = false := nb (by omega)
              have c3 : (gt == n6 + 1) = false := nb (by omega)
              have c4 : (gt == n6 + 1 + 1) = false := nb (by omega)
              have c5 : (gt == gx) = false := nb (Ne.symm hxt)
              have c6 : (gt == n6) = false := nb (by omega)
              have c7 : (n6 + 1 + 1 == gt) = false := nb (by omega)
              have c8 : (n6 + 1 == gt) = false := nb (by omega)
              have c9 : (n6 == gt) = false := nb (by omega)
              have c10 : (gx == gt) = false := nb hxt
              have c11 : (n6 == gx) = false := nb (by omega)
              have c12 : (n6 + 1 + 1 + 1 == gt) = false := nb (by omega)
              have c13 : (gt == n6 + 1 + 1 + 1) = false := nb (by omega)
              have q40 : (X.length + 1) * 40 ≤ 140737488355328 := by omega
              have q16 : (T.length + 1) * 16 ≤ 140737488355328 := by omega
              simp only [push_cast, Nat.reduceBEq, Nat.reduceAdd, Nat.reduceEqDiff, reduceCtorEq, Nat.reduceLeDiff, Nat.reduceSub, Nat.reduceMul, Nat.reduceLT, Int.reduceEq, Int.reduceLT, Int.reduceLE, Int.reduceBEq, Int.reduceBNe, Int.reduceToNat, Int.reduceNeg, Int.reduceSub, Int.reduceAdd, hx6, ht6, c1, c2, c3, c4, c5, c6, c7, c8, c9, c10, c11, c12, c13, q40, q16, List.length_map]
              have hlx : X.length + 1 = (X ++ [(⟨D.now, r.region, l.gen, o, b.length⟩ : NoteD)]).length := by rw [List.length_append]; rfl
              have hlt : T.length + 1 = (T ++ [u]).length := by rw [List.length_append]; rfl
              rw [hlx, hlt]
              have hl6 : ∀ m, n6 ≤ m → ¬ S6 m := fun m hm hs => by have := h6.lt m hs; omega
              refine ⟨_, _, S6, N6, _, G, X ++ [⟨D.now, r.region, l.gen, o, b.length⟩], T ++ [u], gg, n6 + 1 + 1, n6 + 1 + 1 + 1 + 1, rfl, h6k.more (by omega) ?_ (by omega) (hl6 _ (by omega)) ?_ (by omega) (hl6 _ (by omega)) (fun j hj h1 h2 => ?_), hI3⟩
              · rw [upd_other (by omega), upd_other (by omega), upd_other (by omega), upd_same, List.map_append]; rfl
              · rw [upd_same, List.map_append]; rfl
              · rw [upd_other (by omega), upd_other (Ne.symm h2), upd_other (by omega), upd_other (by omega), upd_other (Ne.symm h1), upd_other (by omega), upd_other (by omega), upd_other (by omega)]
    · clear h4 hI hnowB hlast hgB hXi hTl kn hcnt hlo1 hd
      rintro _ ⟨H5, n5, S5, N5, D, G, X, T, gg, gx, gt, rfl, h5, hI⟩
      have hXi := hI.xl
      have hgB := hI.gB
      have hTl := hI.tl
      simp only [push_cast, Nat.reduceBEq, Nat.reduceAdd, Nat.reduceEqDiff, reduceCtorEq, Nat.reduceLeDiff, Nat.reduceSub, Nat.reduceMul, Nat.reduceLT, Int.reduceEq, Int.reduceLT, Int.reduceLE, Int.reduceBEq, Int.reduceBNe, Int.reduceToNat, Int.reduceNeg, Int.reduceSub, Int.reduceAdd]
      refine loopK (fun q s => ∃ (g : Nat) (H6 : Hp) (n6 : Nat), s = ⟨[(0, .sl (row.map dayI)), (5, .ptr e 0), (6, .rw gg 3 0 G.length), (7, .rw gx 5 0 X.length), (8, .rw gt 1 0 T.length), (9, .lit (.int .i64 (i : Int))), (21, .lit (.int .i64 (g : Int)))], H6, n6⟩ ∧ g ≤ G.length ∧ q = G.length - g ∧ KepH H6 n6 S5 e N5 D G X T gg gx gt) _ [0, 5, 6, 7, 8, 9, 21] ⟨0, H5, n5, rfl, Nat.zero_le _, rfl, h5⟩ ?_
      rintro q _ ⟨g, H6, n6, rfl, hg, rfl, h6⟩
      by_cases hgl : g < G.length
      · have hgl' : (g : Int) < (G.length : Int) := by omega
        obtain ⟨z, hz⟩ : ∃ z, G[g]? = some z := ⟨_, List.getElem?_eq_getElem hgl⟩
        have hgz : (G.map gazeI)[g]? = some [.lit (.int .i64 (z.pin : Int)), .lit (.int .i64 (z.from' : Int)), .lit (.bool z.there)] := by rw [List.getElem?_map, hz]; rfl
        have hrg := h6.rg
        have hwg := wrap_nat0 (k := g) (by omega)
        simp only [push_cast, Nat.reduceBEq, Nat.reduceAdd, Nat.reduceEqDiff, reduceCtorEq, Nat.reduceLeDiff, Nat.reduceSub, Nat.reduceMul, Nat.reduceLT, Int.reduceEq, Int.reduceLT, Int.reduceLE, Int.reduceBEq, Int.reduceBNe, Int.reduceToNat, Int.reduceNeg, Int.reduceSub, Int.reduceAdd, hgl, hgl', hrg, hgz]
        refine loopK (fun q s => ∃ (k : Nat) (H7 : Hp) (n7 : Nat), s = ⟨[(0, .sl (row.map dayI)), (5, .ptr e 0), (6, .rw gg 3 0 G.length), (7, .rw gx 5 0 X.length), (8, .rw gt 1 0 T.length), (9, .lit (.int .i64 (i : Int))), (21, .lit (.int .i64 (g : Int))), (22, .lit (.int .i64 (k : Int)))], H7, n7⟩ ∧ z.from' ≤ k ∧ q = X.length - k ∧ KepH H7 n7 S5 e N5 D G X T gg gx gt) _ [0, 5, 6, 7, 8, 9, 21, 22] ⟨z.from', H6, n6, rfl, Nat.le_refl _, rfl, h6⟩ ?_
        rintro q _ ⟨k, H7, n7, rfl, hk, rfl, h7⟩
        have hrg7 := h7.rg
        by_cases hkx : k < X.length
        · have hkx' : (k : Int) < (X.length : Int) := by omega
          have hkt : (k : Int) < (T.length : Int) := by omega
          cases hzt : z.there with
          | false =>
            simp only [push_cast, Nat.reduceBEq, Nat.reduceAdd, Nat.reduceEqDiff, reduceCtorEq, Nat.reduceLeDiff, Nat.reduceSub, Nat.reduceMul, Nat.reduceLT, Int.reduceEq, Int.reduceLT, Int.reduceLE, Int.reduceBEq, Int.reduceBNe, Int.reduceToNat, Int.reduceNeg, Int.reduceSub, Int.reduceAdd, hkx, hkx', hgl, hgl', hrg7, hgz, hzt, hwg]
            exact ⟨_, by omega, g + 1, H7, n7, rfl, hgl, rfl, h7⟩
          | true =>
            obtain ⟨x, hx⟩ : ∃ x, X[k]? = some x := ⟨_, List.getElem?_eq_getElem hkx⟩
            obtain ⟨t, ht⟩ : ∃ t, T[k]? = some t := ⟨_, List.getElem?_eq_getElem (by omega)⟩
            have hlen := (hI.see hz hzt hk hx ht).len hI.w.pk
            obtain ⟨m, r, l, s, y1, y2, y3, y4, y5, y6, y7, y8⟩ := hI.see hz hzt hk hx ht
            have hL := loadE_c h7.h y1 y2 y3 y5 y6 y7
            unfold noteA at hL
            rw [y8] at hL
            have hrx := h7.rx
            have hxm : (X.map noteI)[k]? = some [.lit (.int .i64 (x.ep : Int)), .lit (.int .i64 (x.reg : Int)), .lit (.int .i64 (x.gen : Int)), .lit (.int .i64 (x.off : Int)), .lit (.int .i64 (x.len : Int))] := by rw [List.getElem?_map, hx]; rfl
            simp only [push_cast, Nat.reduceBEq, Nat.reduceAdd, Nat.reduceEqDiff, reduceCtorEq, Nat.reduceLeDiff, Nat.reduceSub, Nat.reduceMul, Nat.reduceLT, Int.reduceEq, Int.reduceLT, Int.reduceLE, Int.reduceBEq, Int.reduceBNe, Int.reduceToNat, Int.reduceNeg, Int.reduceSub, Int.reduceAdd, hkx, hkx', hgl, hgl', hrg7, hgz, hzt, hrx, hxm]
            refine callH hL ?_
            rintro _ H8 n8 ⟨g8, rfl, h81, h82, h83, k8⟩
            have h81 : n7 ≤ g8 := h81
            have h82 : g8 < n8 := h82
            have h8 := h7.same (n' := n8) (by omega) k8
            have hrt := h8.rt
            have htm : (T.map textI)[k]? = some [.lit (.string t)] := by rw [List.getElem?_map, ht]; rfl
            have hwk := wrap_nat0 (k := k) (by omega)
            have h83 : H8 g8 = some (.row true 5 (byL t.data.toList)) := h83
            rw [← hlen]
            have htk : List.take t.data.toList.length (byL t.data.toList) = byL t.data.toList := List.take_of_length_le (by rw [byL_len]; exact Nat.le_refl _)
            have hst : ((⟨t.data.toList.toArray⟩ : ByteArray) != t) = false := by rw [str_data]; unfold bne; rw [str_refl]; rfl
            simp only [push_cast, Nat.reduceBEq, Nat.reduceAdd, Nat.reduceEqDiff, reduceCtorEq, Nat.reduceLeDiff, Nat.reduceSub, Nat.reduceMul, Nat.reduceLT, Int.reduceEq, Int.reduceLT, Int.reduceLE, Int.reduceBEq, Int.reduceBNe, Int.reduceToNat, Int.reduceNeg, Int.reduceSub, Int.reduceAdd, hkt, hrt, htm, h83, byL_len, htk, bytesOf_byL, strOf_byL, hst, hwk]
            exact ⟨_, by omega, k + 1, H8, n8, rfl, by omega, rfl, h8⟩
        · have hkx' : ¬ (k : Int) < (X.length : Int) := by omega
          simp only [push_cast, Nat.reduceBEq, Nat.reduceAdd, Nat.reduceEqDiff, reduceCtorEq, Nat.reduceLeDiff, Nat.reduceSub, Nat.reduceMul, Nat.reduceLT, Int.reduceEq, Int.reduceLT, Int.reduceLE, Int.reduceBEq, Int.reduceBNe, Int.reduceToNat, Int.reduceNeg, Int.reduceSub, Int.reduceAdd, hkx, hkx', hwg]
          exact ⟨_, by omega, g + 1, H7, n7, rfl, hgl, rfl, h7⟩
      · have hgl' : ¬ (g : Int) < (G.length : Int) := by omega
        simp only [push_cast, Nat.reduceBEq, Nat.reduceAdd, Nat.reduceEqDiff, reduceCtorEq, Nat.reduceLeDiff, Nat.reduceSub, Nat.reduceMul, Nat.reduceLT, Int.reduceEq, Int.reduceLT, Int.reduceLE, Int.reduceBEq, Int.reduceBNe, Int.reduceToNat, Int.reduceNeg, Int.reduceSub, Int.reduceAdd, hgl, hgl', hwi]
        exact ⟨_, by omega, i + 1, H6, n6, S5, N5, D, G, X, T, gg, gx, gt, rfl, by omega, rfl, h6, hI⟩
  · have hgo : (i : Int) < (row.length : Int) → ¬ (i : Int) < 120 := fun h h' => hend ⟨by omega, by omega⟩
    by_cases hir : i < row.length
    · have hir' : (i : Int) < (row.length : Int) := Int.ofNat_lt.2 hir
      have hn' := hgo hir'
      simp only [push_cast, Nat.reduceBEq, Nat.reduceAdd, Nat.reduceEqDiff, reduceCtorEq, Nat.reduceLeDiff, Nat.reduceSub, Nat.reduceMul, Nat.reduceLT, Int.reduceEq, Int.reduceLT, Int.reduceLE, Int.reduceBEq, Int.reduceBNe, Int.reduceToNat, Int.reduceNeg, Int.reduceSub, Int.reduceAdd, hir, hir', hn']
    · have hir' : ¬ (i : Int) < (row.length : Int) := fun h => hir (Int.ofNat_lt.1 h)
      simp only [push_cast, Nat.reduceBEq, Nat.reduceAdd, Nat.reduceEqDiff, reduceCtorEq, Nat.reduceLeDiff, Nat.reduceSub, Nat.reduceMul, Nat.reduceLT, Int.reduceEq, Int.reduceLT, Int.reduceLE, Int.reduceBEq, Int.reduceBNe, Int.reduceToNat, Int.reduceNeg, Int.reduceSub, Int.reduceAdd, hir, hir']
end Go.Proofs.Ytndojmpgadbefaa
