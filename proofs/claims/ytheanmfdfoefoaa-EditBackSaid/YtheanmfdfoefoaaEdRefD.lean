/- An edit out of bytes: the reference's DocDecode, by the walk over a heap. -/
import Derived.Test.YtheanmfdfoefoaaEdDec
import Derived.Test.YtheanmfdfoefoaaEdRefH
set_option linter.unusedVariables false
set_option linter.unusedSimpArgs false
namespace Go.Proofs.Ytheanmfdfoefoaa
open Go Go.RowKit Hv
set_option maxRecDepth 20000
set_option maxHeartbeats 8000000
theorem nxt_cast {l l' : List UInt8} {bad bad' : Bool} {z : Nat} (h : Nxt (pN l) l bad z l' bad') : Nxt (pZ l) l bad (z : Int) l' bad' := by
  refine ⟨fun x r h1 h2 => ?_, fun h1 => h.no (h1.imp_right pZ_no), h.len⟩
  obtain ⟨n, rfl, h3, _⟩ := pZ_some h2
  obtain ⟨e1, e2, e3⟩ := h.yes n r h1 h3
  exact ⟨by rw [e1], e2, e3⟩
theorem p3_none' {z : Int × Int × Int} {l : List UInt8} (h : pN l = none) : p3 z l = none := by unfold p3; rw [h]
theorem docDecode_h (b : List UInt8) (hb : b.length ≤ 60000) : Hv.ACalls Try.prog 50 [.lit (.string (str b))] (.tup [edH (decD b).1, .lit (.int .i64 (decD b).2)]) := by
  refine acallsC_of (rs := [.cell 2 62, .tmp 3]) ⟨[0, 2, 3, 4, 5, 6, 7, 8, 9, 10, 11, 12, 13, 14, 15, 48, 75, 107, 120], [], [], [], [13, 24]⟩ TOk mixed Try.func50 rfl rfl (by kernel_rfl) (by kernel_rfl) rfl (nid1 (.lit _)) (by rw [noId_tup]; exact nid2 (noId_ed _) (.lit _)) ?_
  simp only [push_cast, Nat.reduceBEq, Nat.reduceAdd, Nat.reduceEqDiff, reduceCtorEq, Nat.reduceLeDiff, Nat.reduceSub, Nat.reduceMul, Nat.reduceLT, Int.reduceEq, Int.reduceLT, Int.reduceLE, Int.reduceBEq, Int.reduceBNe, Int.reduceToNat, Int.reduceNeg, Int.reduceSub, Int.reduceAdd]
  have t0 : Tr (p0 pR b) false (p0 pR b) := .inr ⟨rfl, rfl⟩
  have hw : ∀ z : Nat, z ≤ 4611686018427387904 → IntKind.u64.wrap (z : Int) = (z : Int) := fun z h => u64_nat (by omega)
  refine callH (rnumI_h (l := b) (bad := false) (by omega) rfl) ?_
  rintro _ H1 _ ⟨z1, l1, b1, w1, rfl, rfl, q1, f1, N1⟩
  have t1 := tr_step (fun n => p1 pR (unz n)) t0 N1 (fun h => by unfold p0 pR; rw [h]) (fun c r h => by unfold p0 pR; rw [h])
  have g1 := hw z1 w1
  simp only [push_cast, Nat.reduceBEq, Nat.reduceAdd, Nat.reduceEqDiff, reduceCtorEq, Nat.reduceLeDiff, Nat.reduceSub, Nat.reduceMul, Nat.reduceLT, Int.reduceEq, Int.reduceLT, Int.reduceLE, Int.reduceBEq, Int.reduceBNe, Int.reduceToNat, Int.reduceNeg, Int.reduceSub, Int.reduceAdd, natA, g1]
  refine callH (rnumI_h (by have := N1.len; omega) q1) ?_
  rintro _ H2 _ ⟨z2, l2, b2, w2, rfl, rfl, q2, f2, N2⟩
  have t2 := tr_step (fun n => p2 pR (unz z1, unz n)) t1 N2 (fun h => by unfold p1 pR; rw [h]) (fun c r h => by unfold p1 pR; rw [h])
  have g2 := hw z2 w2
  simp only [push_cast, Nat.reduceBEq, Nat.reduceAdd, Nat.reduceEqDiff, reduceCtorEq, Nat.reduceLeDiff, Nat.reduceSub, Nat.reduceMul, Nat.reduceLT, Int.reduceEq, Int.reduceLT, Int.reduceLE, Int.reduceBEq, Int.reduceBNe, Int.reduceToNat, Int.reduceNeg, Int.reduceSub, Int.reduceAdd, natA, g2]
  refine callH (rnumI_h (by have := N1.len; have := N2.len; omega) q2) ?_
  rintro _ H3 _ ⟨z3, l3, b3, w3, rfl, rfl, q3, f3, N3⟩
  have t3 := tr_step (fun n => p3 (unz z1, unz z2, unz n)) t2 N3 (fun h => by unfold p2 pR; rw [h]) (fun c r h => by unfold p2 pR; rw [h])
  have g3 := hw z3 w3
  have r0 : H3 0 = some (.cells zE5) := (f3 0 (by decide)).trans ((f2 0 (by decide)).trans ((f1 0 (by decide)).trans rfl))
  have r2 : H3 2 = some (.cells zE5) := (f3 2 (by decide)).trans ((f2 2 (by decide)).trans ((f1 2 (by decide)).trans rfl))
  have hl3 : l3.length ≤ b.length := Nat.le_trans N3.len (Nat.le_trans N2.len N1.len)
  clear f1 f2 f3 N1 N2 N3 q1 q2 t0 t1 t2
  unfold zE5 at r2
  simp only [push_cast, Nat.reduceBEq, Nat.reduceAdd, Nat.reduceEqDiff, reduceCtorEq, Nat.reduceLeDiff, Nat.reduceSub, Nat.reduceMul, Nat.reduceLT, Int.reduceEq, Int.reduceLT, Int.reduceLE, Int.reduceBEq, Int.reduceBNe, Int.reduceToNat, Int.reduceNeg, Int.reduceSub, Int.reduceAdd, natA, g3]
  refine callK (unfold_h (n := z1) (by omega)) ?_
  simp only [push_cast, Nat.reduceBEq, Nat.reduceAdd, Nat.reduceEqDiff, reduceCtorEq, Nat.reduceLeDiff, Nat.reduceSub, Nat.reduceMul, Nat.reduceLT, Int.reduceEq, Int.reduceLT, Int.reduceLE, Int.reduceBEq, Int.reduceBNe, Int.reduceToNat, Int.reduceNeg, Int.reduceSub, Int.reduceAdd, natA]
  refine callK (unfold_h (n := z2) (by omega)) ?_
  simp only [push_cast, Nat.reduceBEq, Nat.reduceAdd, Nat.reduceEqDiff, reduceCtorEq, Nat.reduceLeDiff, Nat.reduceSub, Nat.reduceMul, Nat.reduceLT, Int.reduceEq, Int.reduceLT, Int.reduceLE, Int.reduceBEq, Int.reduceBNe, Int.reduceToNat, Int.reduceNeg, Int.reduceSub, Int.reduceAdd, natA]
  refine callK (unfold_h (n := z3) (by omega)) ?_
  simp only [push_cast, Nat.reduceBEq, Nat.reduceAdd, Nat.reduceEqDiff, reduceCtorEq, Nat.reduceLeDiff, Nat.reduceSub, Nat.reduceMul, Nat.reduceLT, Int.reduceEq, Int.reduceLT, Int.reduceLE, Int.reduceBEq, Int.reduceBNe, Int.reduceToNat, Int.reduceNeg, Int.reduceSub, Int.reduceAdd, natA, r2]
  refine callH (rnumI_h (l := l3) (bad := b3) (by omega) (by exact q3)) ?_
  rintro _ H4 _ ⟨z4, l4, b4, w4, rfl, rfl, q4, f4, N4⟩
  have t4 := tr_step (fun c => p4 (unz z1, unz z2, unz z3) (c : Int).toNat []) t3 (nxt_cast N4) p3_none (fun c r h => p3_some h)
  have r04 : H4 0 = some (.cells zE5) := (f4 0 (by decide)).trans r0
  have r24 : H4 2 = some (.cells [.lit (.int .i64 (unz z1)), .lit (.int .i64 (unz z2)), .lit (.int .i64 (unz z3)), .lit (.slice none 0 0), .lit (.slice none 0 0)]) := (f4 2 (by decide)).trans rfl
  have hl4 : l4.length ≤ b.length := Nat.le_trans N4.len hl3
  clear f4 N4 q3 t3 hl3 r0 r2
  generalize unz z1 = z1 at *
  generalize unz z2 = z2 at *
  generalize unz z3 = z3 at *
  simp only [push_cast, Nat.reduceBEq, Nat.reduceAdd, Nat.reduceEqDiff, reduceCtorEq, Nat.reduceLeDiff, Nat.reduceSub, Nat.reduceMul, Nat.reduceLT, Int.reduceEq, Int.reduceLT, Int.reduceLE, Int.reduceBEq, Int.reduceBNe, Int.reduceToNat, Int.reduceNeg, Int.reduceSub, Int.reduceAdd, natA]
  refine cutK (fun s => ∃ (g : List PlD) (gv : AV) (l : List UInt8) (bad : Bool) (nx : Nat) (H : Hp), s = ⟨[(0, .lit (.string (str b))), (2, .ptr 0 0), (3, .lit (.int .i64 0)), (4, .ptr 1 0), (5, .ptr 2 0)], H, nx⟩ ∧ DecA inR 86 84 0 1 2 b z1 z2 z3 g gv [] (.lit (.slice none 0 0)) l bad H nx ∧ g.length ≤ b.length + 1 ∧ Tr (p0 pR b) bad (p5 (z1, z2, z3) g l)) [0, 2, 3, 4, 5] ?_ ?_
  · simp only [push_cast, Nat.reduceBEq, Nat.reduceAdd, Nat.reduceEqDiff, reduceCtorEq, Nat.reduceLeDiff, Nat.reduceSub, Nat.reduceMul, Nat.reduceLT, Int.reduceEq, Int.reduceLT, Int.reduceLE, Int.reduceBEq, Int.reduceBNe, Int.reduceToNat, Int.reduceNeg, Int.reduceSub, Int.reduceAdd]
    refine loopK (fun m s => ∃ (k : Nat) (g : List PlD) (gv : AV) (l : List UInt8) (bad : Bool) (nx : Nat) (H : Hp), s = ⟨[(0, .lit (.string (str b))), (2, .ptr 0 0), (3, .lit (.int .i64 0)), (4, .ptr 1 0), (5, .ptr 2 0), (9, .lit (.int .i64 (z4 : Int))), (10, .lit (.int .i64 (k : Int)))], H, nx⟩ ∧ m = (if bad = true then 0 else l.length + 1) ∧ DecA inR 86 84 0 1 2 b z1 z2 z3 g gv [] (.lit (.slice none 0 0)) l bad H nx ∧ g.length ≤ b.length + 1 ∧ (bad = false → g.length + l.length ≤ b.length) ∧ k ≤ z4 ∧ Tr (p0 pR b) bad (p4 (z1, z2, z3) (z4 - k) g l)) _ [0, 2, 3, 4, 5, 9, 10] (by exact ⟨0, [], _, l4, b4, 3, H4, rfl, rfl, ⟨r04, q4, r24, .inl ⟨rfl, rfl⟩, .inl ⟨rfl, rfl⟩, by omega, hl4⟩, Nat.zero_le _, fun _ => by simpa using hl4, Nat.zero_le _, t4⟩) ?_
    clear r04 q4 r24 hl4 t4
    rintro m _ ⟨k, g, gv, l, bad, nx, H, rfl, rfl, hA, hg1, hg2, hk, hT⟩
    obtain ⟨r0, r1, r2, rg, rn, n3, ll⟩ := hA
    unfold inR at r1
    cases bad with
    | true =>
      have hT' : Tr (p0 pR b) true (p5 (z1, z2, z3) g l) := .inl ⟨rfl, by rcases hT with h | h; exact h.2; cases h.1⟩
      by_cases hv0 : (k : Int) < (z4 : Int)
      · simp only [push_cast, Nat.reduceBEq, Nat.reduceAdd, Nat.reduceEqDiff, reduceCtorEq, Nat.reduceLeDiff, Nat.reduceSub, Nat.reduceMul, Nat.reduceLT, Int.reduceEq, Int.reduceLT, Int.reduceLE, Int.reduceBEq, Int.reduceBNe, Int.reduceToNat, Int.reduceNeg, Int.reduceSub, Int.reduceAdd, hv0, r1]
        exact ⟨g, gv, l, true, nx, H, rfl, ⟨r0, r1, r2, rg, rn, n3, ll⟩, hg1, hT'⟩
      · simp only [push_cast, Nat.reduceBEq, Nat.reduceAdd, Nat.reduceEqDiff, reduceCtorEq, Nat.reduceLeDiff, Nat.reduceSub, Nat.reduceMul, Nat.reduceLT, Int.reduceEq, Int.reduceLT, Int.reduceLE, Int.reduceBEq, Int.reduceBNe, Int.reduceToNat, Int.reduceNeg, Int.reduceSub, Int.reduceAdd, hv0, r1]
        exact ⟨g, gv, l, true, nx, H, rfl, ⟨r0, r1, r2, rg, rn, n3, ll⟩, hg1, hT'⟩
    | false =>
      have hg2 := hg2 rfl
      by_cases hv0 : k < z4
      · have qn : ∀ z c, upd (upd H nx z) nx c 1 = some (.cells (inR l false)) := fun z c => by rw [upd_other (by omega), upd_other (by omega)]; exact r1
        simp only [push_cast, Nat.reduceBEq, Nat.reduceAdd, Nat.reduceEqDiff, reduceCtorEq, Nat.reduceLeDiff, Nat.reduceSub, Nat.reduceMul, Nat.reduceLT, Int.reduceEq, Int.reduceLT, Int.reduceLE, Int.reduceBEq, Int.reduceBNe, Int.reduceToNat, Int.reduceNeg, Int.reduceSub, Int.reduceAdd, hv0, r1, r2]
        refine callH (rnumI_h (l := l) (bad := false) (by omega) (by exact qn _ _)) ?_
        rintro _ H5 ny ⟨x1, l5, b5, w5, rfl, hny, q5, f5, N5⟩
        have hny : ny = nx + 1 := hny
        subst hny
        have s5 : H5 nx = some (.cells [.lit (.int .i64 0), .lit (.int .i64 0)]) := (f5 nx (by omega)).trans (upd_same _ _ _)
        have fr5 : ∀ j, j ≠ 1 → j ≠ nx → H5 j = H j := fun j h1 h2 => (f5 j h1).trans ((upd_other (Ne.symm h2)).trans (upd_other (Ne.symm h2)))
        have hl5 : l5.length ≤ l.length := N5.len
        have qn5 : ∀ c, upd H5 nx c 1 = some (.cells (inR l5 b5)) := fun c => by rw [upd_other (by omega)]; exact q5
        simp only [push_cast, Nat.reduceBEq, Nat.reduceAdd, Nat.reduceEqDiff, reduceCtorEq, Nat.reduceLeDiff, Nat.reduceSub, Nat.reduceMul, Nat.reduceLT, Int.reduceEq, Int.reduceLT, Int.reduceLE, Int.reduceBEq, Int.reduceBNe, Int.reduceToNat, Int.reduceNeg, Int.reduceSub, Int.reduceAdd, natA, s5]
        refine callH (rnumI_h (l := l5) (bad := b5) (by omega) (by exact qn5 _)) ?_
        rintro _ H6 ny ⟨x2, l6, b6, w6, rfl, hny, q6, f6, N6⟩
        have hny : ny = nx + 1 := hny
        subst hny
        have s6 : H6 nx = some (.cells [.lit (.int .i64 (x1 : Int)), .lit (.int .i64 0)]) := (f6 nx (by omega)).trans (upd_same _ _ _)
        have fr6 : ∀ j, j ≠ 1 → j ≠ nx → H6 j = H j := fun j h1 h2 => (f6 j h1).trans ((upd_other (Ne.symm h2)).trans (fr5 j h1 h2))
        have r26 := (fr6 2 (by decide) (by omega)).trans r2
        have r06 := (fr6 0 (by decide) (by omega)).trans r0
        obtain ⟨u, hu, hu'⟩ : ∃ u : Nat, z4 - k = u + 1 ∧ z4 - (k + 1) = u := ⟨z4 - k - 1, by omega, by omega⟩
        have hwk := wrap_nat (k := k) (by omega)
        rw [hu] at hT
        have T5 := tr_step (fun a => p4a (z1, z2, z3) u g a) hT (nxt_cast N5) (fun h => p4_none h) (fun a r h => p4_some h)
        have T6 := tr_step (fun a => p4 (z1, z2, z3) u (g ++ [⟨(x1 : Int), a⟩])) T5 (nxt_cast N6) (fun h => by unfold p4a; rw [h]) (fun a r h => by unfold p4a; rw [h])
        rw [← hu'] at T6
        have hl6 : l6.length ≤ l5.length := N6.len
        have hdec : b6 = false → l6.length + 1 ≤ l.length := fun h => by
          have h5 := (nxt_good N6 h).1
          obtain ⟨_, _, _, _, h6⟩ := pZ_some (nxt_good (nxt_cast N5) h5).2
          omega
        have hm : (if b6 = true then 0 else l6.length + 1) < (if false = true then 0 else l.length + 1) := by
          cases b6 with
          | true => simp
          | false => have := hdec rfl; simp; omega
        have hg6 : b6 = false → g.length + 1 + l6.length ≤ b.length := fun h => by have := hdec h; omega
        have hb16 : (g.length + 1) * 16 ≤ 140737488355328 := by omega
        clear hdec N5 N6 T5 f5 f6 qn qn5 s5 q5
        have e0 : (nx == 2) = false := neB (by omega)
        have e2 : (nx + 1 == 2) = false := neB (by omega)
        have e6 : (nx + 1 + 1 == 2) = false := neB (by omega)
        have e7 : (nx == nx + 1) = false := neB (by omega)
        have e8 : (nx + 1 + 1 == nx + 1) = false := neB (by omega)
        rcases rg with ⟨rfl, hnil⟩ | ⟨id, rfl, i3, ilt, hrow⟩
        · obtain rfl : g = [] := by simpa using hnil
          simp only [push_cast, Nat.reduceBEq, Nat.reduceAdd, Nat.reduceEqDiff, reduceCtorEq, Nat.reduceLeDiff, Nat.reduceSub, Nat.reduceMul, Nat.reduceLT, Int.reduceEq, Int.reduceLT, Int.reduceLE, Int.reduceBEq, Int.reduceBNe, Int.reduceToNat, Int.reduceNeg, Int.reduceSub, Int.reduceAdd, natA, s6, r26, hwk, e0, e2, e6, e7, e8]
          refine ⟨_, hm, k + 1, [(⟨(x1 : Int), (x2 : Int)⟩ : PlD)], _, l6, b6, nx + 1 + 1 + 1, _, rfl, rfl, ⟨?_, ?_, upd_same _ _ _, .inr ⟨nx + 1 + 1, rfl, by omega, by omega, ?_⟩, .inl ⟨rfl, rfl⟩, by omega, by omega⟩, by simp, hg6, by omega, T6⟩
          · (repeat rw [upd_other (by omega)]); exact r06
          · (repeat rw [upd_other (by omega)]); exact q6
          · rw [upd_other (by omega), upd_same]; rfl
        · have hrow6 := (fr6 id (by omega) (by omega)).trans hrow
          have e3 : (id == 2) = false := neB (by omega)
          have e4 : (nx + 1 == id) = false := neB (by omega)
          have e5 : (nx == id) = false := neB (by omega)
          have e9 : (nx + 1 + 1 == id) = false := neB (by omega)
          simp only [push_cast, Nat.reduceBEq, Nat.reduceAdd, Nat.reduceEqDiff, reduceCtorEq, Nat.reduceLeDiff, Nat.reduceSub, Nat.reduceMul, Nat.reduceLT, Int.reduceEq, Int.reduceLT, Int.reduceLE, Int.reduceBEq, Int.reduceBNe, Int.reduceToNat, Int.reduceNeg, Int.reduceSub, Int.reduceAdd, natA, s6, r26, hwk, hrow6, hb16, e0, e2, e3, e4, e5, e6, e7, e8, e9]
          refine ⟨_, hm, k + 1, g ++ [(⟨(x1 : Int), (x2 : Int)⟩ : PlD)], _, l6, b6, nx + 1 + 1 + 1, _, rfl, rfl, ⟨?_, ?_, upd_same _ _ _, .inr ⟨nx + 1 + 1, ?_, by omega, by omega, ?_⟩, .inl ⟨rfl, rfl⟩, by omega, by omega⟩, by simp; omega, fun h => by rw [List.length_append]; exact hg6 h, by omega, T6⟩
          · (repeat rw [upd_other (by omega)]); exact r06
          · (repeat rw [upd_other (by omega)]); exact q6
          · simp
          · rw [upd_other (by omega), upd_same, List.map_append]; rfl
      · obtain rfl : k = z4 := by omega
        have hv0 : ¬ (k : Int) < (k : Int) := by omega
        rw [Nat.sub_self] at hT
        simp only [push_cast, Nat.reduceBEq, Nat.reduceAdd, Nat.reduceEqDiff, reduceCtorEq, Nat.reduceLeDiff, Nat.reduceSub, Nat.reduceMul, Nat.reduceLT, Int.reduceEq, Int.reduceLT, Int.reduceLE, Int.reduceBEq, Int.reduceBNe, Int.reduceToNat, Int.reduceNeg, Int.reduceSub, Int.reduceAdd, hv0, r1]
        exact ⟨g, gv, l, false, nx, H, rfl, ⟨r0, r1, r2, rg, rn, n3, ll⟩, hg1, hT⟩
  clear r04 q4 r24 hl4 t4 w4
  rintro _ ⟨g, gv, l, bad, nx, H, rfl, hA, hg1, hT⟩
  obtain ⟨r0, r1, r2, rg, rn, n3, ll⟩ := hA
  simp only [push_cast, Nat.reduceBEq, Nat.reduceAdd, Nat.reduceEqDiff, reduceCtorEq, Nat.reduceLeDiff, Nat.reduceSub, Nat.reduceMul, Nat.reduceLT, Int.reduceEq, Int.reduceLT, Int.reduceLE, Int.reduceBEq, Int.reduceBNe, Int.reduceToNat, Int.reduceNeg, Int.reduceSub, Int.reduceAdd]
  refine callH (rnumI_h (l := l) (bad := bad) (by omega) r1) ?_
  rintro _ H4 nx ⟨z4, l4, b4, w4, rfl, rfl, q4, f4, N4⟩
  have t4 := tr_step (fun c => p6 (z1, z2, z3) g (c : Int).toNat []) hT (nxt_cast N4) p5_none (fun c r h => p5_some h)
  have r04 := (f4 0 (by decide)).trans r0
  have r24 := (f4 2 (by decide)).trans r2
  have rg4 := nilRow_keep rg (Nat.le_refl nx) fun j hj _ => f4 j (by omega)
  have hl4 : l4.length ≤ b.length := Nat.le_trans N4.len ll
  clear f4 N4 r0 r1 r2 rg rn ll hT
  simp only [push_cast, Nat.reduceBEq, Nat.reduceAdd, Nat.reduceEqDiff, reduceCtorEq, Nat.reduceLeDiff, Nat.reduceSub, Nat.reduceMul, Nat.reduceLT, Int.reduceEq, Int.reduceLT, Int.reduceLE, Int.reduceBEq, Int.reduceBNe, Int.reduceToNat, Int.reduceNeg, Int.reduceSub, Int.reduceAdd, natA]
  refine cutK (fun s => ∃ (gv : AV) (n : List AddD) (nv : AV) (l : List UInt8) (bad : Bool) (nx : Nat) (H : Hp), s = ⟨[(0, .lit (.string (str b))), (2, .ptr 0 0), (3, .lit (.int .i64 0)), (4, .ptr 1 0), (5, .ptr 2 0)], H, nx⟩ ∧ DecA inR 86 84 0 1 2 b z1 z2 z3 g gv n nv l bad H nx ∧ n.length ≤ b.length + 1 ∧ Tr (p0 pR b) bad (some (⟨z1, z2, z3, g, n⟩, l))) [0, 2, 3, 4, 5] ?_ ?_
  · simp only [push_cast, Nat.reduceBEq, Nat.reduceAdd, Nat.reduceEqDiff, reduceCtorEq, Nat.reduceLeDiff, Nat.reduceSub, Nat.reduceMul, Nat.reduceLT, Int.reduceEq, Int.reduceLT, Int.reduceLE, Int.reduceBEq, Int.reduceBNe, Int.reduceToNat, Int.reduceNeg, Int.reduceSub, Int.reduceAdd]
    refine loopK (fun m s => ∃ (k : Nat) (n : List AddD) (nv : AV) (l : List UInt8) (bad : Bool) (nx : Nat) (H : Hp), s = ⟨[(0, .lit (.string (str b))), (2, .ptr 0 0), (3, .lit (.int .i64 0)), (4, .ptr 1 0), (5, .ptr 2 0), (9, .lit (.int .i64 (z4 : Int))), (12, .lit (.int .i64 (k : Int)))], H, nx⟩ ∧ m = (if bad = true then 0 else l.length + 1) ∧ DecA inR 86 84 0 1 2 b z1 z2 z3 g gv n nv l bad H nx ∧ n.length ≤ b.length + 1 ∧ (bad = false → n.length + l.length ≤ b.length) ∧ k ≤ z4 ∧ Tr (p0 pR b) bad (p6 (z1, z2, z3) g (z4 - k) n l)) _ [0, 2, 3, 4, 5, 9, 12] (by exact ⟨0, [], _, l4, b4, nx, H4, rfl, rfl, ⟨r04, q4, r24, rg4, .inl ⟨rfl, rfl⟩, n3, hl4⟩, Nat.zero_le _, fun _ => by simpa using hl4, Nat.zero_le _, t4⟩) ?_
    clear r04 q4 r24 hl4 t4 rg4 n3
    rintro m _ ⟨k, n, nv, l, bad, nx, H, rfl, rfl, hA, hg1, hg2, hk, hT⟩
    obtain ⟨r0, r1, r2, rg, rn, n3, ll⟩ := hA
    unfold inR at r1
    cases bad with
    | true =>
      have hT' : Tr (p0 pR b) true (some (⟨z1, z2, z3, g, n⟩, l)) := .inl ⟨rfl, by rcases hT with h | h; exact h.2; cases h.1⟩
      by_cases hv0 : (k : Int) < (z4 : Int)
      · simp only [push_cast, Nat.reduceBEq, Nat.reduceAdd, Nat.reduceEqDiff, reduceCtorEq, Nat.reduceLeDiff, Nat.reduceSub, Nat.reduceMul, Nat.reduceLT, Int.reduceEq, Int.reduceLT, Int.reduceLE, Int.reduceBEq, Int.reduceBNe, Int.reduceToNat, Int.reduceNeg, Int.reduceSub, Int.reduceAdd, hv0, r1]
        exact ⟨gv, n, nv, l, true, nx, H, rfl, ⟨r0, r1, r2, rg, rn, n3, ll⟩, hg1, hT'⟩
      · simp only [push_cast, Nat.reduceBEq, Nat.reduceAdd, Nat.reduceEqDiff, reduceCtorEq, Nat.reduceLeDiff, Nat.reduceSub, Nat.reduceMul, Nat.reduceLT, Int.reduceEq, Int.reduceLT, Int.reduceLE, Int.reduceBEq, Int.reduceBNe, Int.reduceToNat, Int.reduceNeg, Int.reduceSub, Int.reduceAdd, hv0, r1]
        exact ⟨gv, n, nv, l, true, nx, H, rfl, ⟨r0, r1, r2, rg, rn, n3, ll⟩, hg1, hT'⟩
    | false =>
      have hg2 := hg2 rfl
      by_cases hv0 : k < z4
      · have qn : ∀ z c, upd (upd H nx z) nx c 1 = some (.cells (inR l false)) := fun z c => by rw [upd_other (by omega), upd_other (by omega)]; exact r1
        simp only [push_cast, Nat.reduceBEq, Nat.reduceAdd, Nat.reduceEqDiff, reduceCtorEq, Nat.reduceLeDiff, Nat.reduceSub, Nat.reduceMul, Nat.reduceLT, Int.reduceEq, Int.reduceLT, Int.reduceLE, Int.reduceBEq, Int.reduceBNe, Int.reduceToNat, Int.reduceNeg, Int.reduceSub, Int.reduceAdd, hv0, r1, r2]
        refine callH (rnumI_h (l := l) (bad := false) (by omega) (by exact qn _ _)) ?_
        rintro _ H5 ny ⟨x1, l5, b5, w5, rfl, hny, q5, f5, N5⟩
        have hny : ny = nx + 1 := hny
        subst hny
        have s5 : H5 nx = some (.cells [.lit (.int .i64 0), .lit (.int .i64 0), .lit (.int .i64 0), .lit (.string ⟨#[]⟩), .lit (.string ⟨#[]⟩)]) := (f5 nx (by omega)).trans (upd_same _ _ _)
        have fr5 : ∀ j, j ≠ 1 → j ≠ nx → H5 j = H j := fun j h1 h2 => (f5 j h1).trans ((upd_other (Ne.symm h2)).trans (upd_other (Ne.symm h2)))
        have hl5 : l5.length ≤ l.length := N5.len
        have qn5 : ∀ c, upd H5 nx c 1 = some (.cells (inR l5 b5)) := fun c => by rw [upd_other (by omega)]; exact q5
        simp only [push_cast, Nat.reduceBEq, Nat.reduceAdd, Nat.reduceEqDiff, reduceCtorEq, Nat.reduceLeDiff, Nat.reduceSub, Nat.reduceMul, Nat.reduceLT, Int.reduceEq, Int.reduceLT, Int.reduceLE, Int.reduceBEq, Int.reduceBNe, Int.reduceToNat, Int.reduceNeg, Int.reduceSub, Int.reduceAdd, natA, s5]
        refine callH (rnumI_h (l := l5) (bad := b5) (by omega) (by exact qn5 _)) ?_
        rintro _ H6 ny ⟨x2, l6, b6, w6, rfl, hny, q6, f6, N6⟩
        have hny : ny = nx + 1 := hny
        subst hny
        have s6 : H6 nx = some (.cells [.lit (.int .i64 (x1 : Int)), .lit (.int .i64 0), .lit (.int .i64 0), .lit (.string ⟨#[]⟩), .lit (.string ⟨#[]⟩)]) := (f6 nx (by omega)).trans (upd_same _ _ _)
        have fr6 : ∀ j, j ≠ 1 → j ≠ nx → H6 j = H j := fun j h1 h2 => (f6 j h1).trans ((upd_other (Ne.symm h2)).trans (fr5 j h1 h2))
        have hl6 : l6.length ≤ l5.length := N6.len
        have qn6 : ∀ c, upd H6 nx c 1 = some (.cells (inR l6 b6)) := fun c => by rw [upd_other (by omega)]; exact q6
        simp only [push_cast, Nat.reduceBEq, Nat.reduceAdd, Nat.reduceEqDiff, reduceCtorEq, Nat.reduceLeDiff, Nat.reduceSub, Nat.reduceMul, Nat.reduceLT, Int.reduceEq, Int.reduceLT, Int.reduceLE, Int.reduceBEq, Int.reduceBNe, Int.reduceToNat, Int.reduceNeg, Int.reduceSub, Int.reduceAdd, natA, s6]
        refine callH (rnumI_h (l := l6) (bad := b6) (by omega) (by exact qn6 _)) ?_
        rintro _ H7 ny ⟨x3, l7, b7, w7, rfl, hny, q7, f7, N7⟩
        have hny : ny = nx + 1 := hny
        subst hny
        have s7 : H7 nx = some (.cells [.lit (.int .i64 (x1 : Int)), .lit (.int .i64 (x2 : Int)), .lit (.int .i64 0), .lit (.string ⟨#[]⟩), .lit (.string ⟨#[]⟩)]) := (f7 nx (by omega)).trans (upd_same _ _ _)
        have fr7 : ∀ j, j ≠ 1 → j ≠ nx → H7 j = H j := fun j h1 h2 => (f7 j h1).trans ((upd_other (Ne.symm h2)).trans (fr6 j h1 h2))
        have hl7 : l7.length ≤ l6.length := N7.len
        have qn7 : ∀ c, upd H7 nx c 1 = some (.cells (inR l7 b7)) := fun c => by rw [upd_other (by omega)]; exact q7
        simp only [push_cast, Nat.reduceBEq, Nat.reduceAdd, Nat.reduceEqDiff, reduceCtorEq, Nat.reduceLeDiff, Nat.reduceSub, Nat.reduceMul, Nat.reduceLT, Int.reduceEq, Int.reduceLT, Int.reduceLE, Int.reduceBEq, Int.reduceBNe, Int.reduceToNat, Int.reduceNeg, Int.reduceSub, Int.reduceAdd, natA, s7]
        refine callH (rtextI_h (l := l7) (bad := b7) (by omega) (by exact qn7 _)) ?_
        rintro _ H8 ny ⟨y4, l8, b8, rfl, hny, q8, f8, N8⟩
        have hny : ny = nx + 1 := hny
        subst hny
        have s8 : H8 nx = some (.cells [.lit (.int .i64 (x1 : Int)), .lit (.int .i64 (x2 : Int)), .lit (.int .i64 (x3 : Int)), .lit (.string ⟨#[]⟩), .lit (.string ⟨#[]⟩)]) := (f8 nx (by omega)).trans (upd_same _ _ _)
        have fr8 : ∀ j, j ≠ 1 → j ≠ nx → H8 j = H j := fun j h1 h2 => (f8 j h1).trans ((upd_other (Ne.symm h2)).trans (fr7 j h1 h2))
        have hl8 : l8.length ≤ l7.length := N8.len
        have qn8 : ∀ c, upd H8 nx c 1 = some (.cells (inR l8 b8)) := fun c => by rw [upd_other (by omega)]; exact q8
        simp only [push_cast, Nat.reduceBEq, Nat.reduceAdd, Nat.reduceEqDiff, reduceCtorEq, Nat.reduceLeDiff, Nat.reduceSub, Nat.reduceMul, Nat.reduceLT, Int.reduceEq, Int.reduceLT, Int.reduceLE, Int.reduceBEq, Int.reduceBNe, Int.reduceToNat, Int.reduceNeg, Int.reduceSub, Int.reduceAdd, strA, s8]
        refine callH (rtextI_h (l := l8) (bad := b8) (by omega) (by exact qn8 _)) ?_
        rintro _ H9 ny ⟨y5, l9, b9, rfl, hny, q9, f9, N9⟩
        have hny : ny = nx + 1 := hny
        subst hny
        have s9 : H9 nx = some (.cells [.lit (.int .i64 (x1 : Int)), .lit (.int .i64 (x2 : Int)), .lit (.int .i64 (x3 : Int)), .lit (.string y4), .lit (.string ⟨#[]⟩)]) := (f9 nx (by omega)).trans (upd_same _ _ _)
        have fr9 : ∀ j, j ≠ 1 → j ≠ nx → H9 j = H j := fun j h1 h2 => (f9 j h1).trans ((upd_other (Ne.symm h2)).trans (fr8 j h1 h2))
        have hl9 : l9.length ≤ l8.length := N9.len
        have r29 := (fr9 2 (by decide) (by omega)).trans r2
        have r09 := (fr9 0 (by decide) (by omega)).trans r0
        obtain ⟨u, hu, hu'⟩ : ∃ u : Nat, z4 - k = u + 1 ∧ z4 - (k + 1) = u := ⟨z4 - k - 1, by omega, by omega⟩
        have hwk := wrap_nat (k := k) (by omega)
        rw [hu] at hT
        have T5 := tr_step (fun a => p6a (z1, z2, z3) g u n a) hT (nxt_cast N5) (fun h => p6_none h) (fun a r h => p6_some h)
        have T6 := tr_step (fun a => p6b (z1, z2, z3) g u n (x1 : Int) a) T5 (nxt_cast N6) (fun h => by unfold p6a; rw [h]) (fun a r h => by unfold p6a; rw [h])
        have T7 := tr_step (fun a => p6c (z1, z2, z3) g u n (x1 : Int) (x2 : Int) a) T6 (nxt_cast N7) (fun h => by unfold p6b; rw [h]) (fun a r h => by unfold p6b; rw [h])
        have T8 := tr_step (fun a => p6d (z1, z2, z3) g u n (x1 : Int) (x2 : Int) (x3 : Int) a) T7 N8 (fun h => by unfold p6c; rw [h]) (fun a r h => by unfold p6c; rw [h])
        have T9 := tr_step (fun a => p6 (z1, z2, z3) g u (n ++ [⟨(x1 : Int), ⟨(x2 : Int), (x3 : Int), y4, a⟩⟩])) T8 N9 (fun h => by unfold p6d; rw [h]) (fun a r h => by unfold p6d; rw [h])
        rw [← hu'] at T9
        have hdec : b9 = false → l9.length + 1 ≤ l.length := fun h => by
          have h5 := (nxt_good N6 (nxt_good N7 (nxt_good N8 (nxt_good N9 h).1).1).1).1
          obtain ⟨_, _, _, _, h6⟩ := pZ_some (nxt_good (nxt_cast N5) h5).2
          omega
        have hm : (if b9 = true then 0 else l9.length + 1) < (if false = true then 0 else l.length + 1) := by
          cases b9 with
          | true => simp
          | false => have := hdec rfl; simp; omega
        have hg9 : b9 = false → n.length + 1 + l9.length ≤ b.length := fun h => by have := hdec h; omega
        have hl9' : l9.length ≤ b.length := by omega
        have hb56 : (n.length + 1) * 56 ≤ 140737488355328 := by omega
        clear hdec N5 N6 N7 N8 N9 T5 T6 T7 T8 f5 f6 f7 f8 f9 qn qn5 qn6 qn7 qn8 s5 s6 s7 s8 q5 q6 q7 q8 fr5 fr6 fr7 fr8 hl5 hl6 hl7 hl8 hT w5 w6 w7
        have e0 : (nx == 2) = false := neB (by omega)
        have e2 : (nx + 1 == 2) = false := neB (by omega)
        have e6 : (nx + 1 + 1 == 2) = false := neB (by omega)
        have e7 : (nx == nx + 1) = false := neB (by omega)
        have e8 : (nx + 1 + 1 == nx + 1) = false := neB (by omega)
        rcases rn with ⟨rfl, hnil⟩ | ⟨id, rfl, i3, ilt, hrow⟩
        · obtain rfl : n = [] := by simpa using hnil
          simp only [push_cast, Nat.reduceBEq, Nat.reduceAdd, Nat.reduceEqDiff, reduceCtorEq, Nat.reduceLeDiff, Nat.reduceSub, Nat.reduceMul, Nat.reduceLT, Int.reduceEq, Int.reduceLT, Int.reduceLE, Int.reduceBEq, Int.reduceBNe, Int.reduceToNat, Int.reduceNeg, Int.reduceSub, Int.reduceAdd, strA, s9, r29, hwk, e0, e2, e6, e7, e8]
          refine ⟨_, hm, k + 1, [(⟨(x1 : Int), ⟨(x2 : Int), (x3 : Int), y4, y5⟩⟩ : AddD)], _, l9, b9, nx + 1 + 1 + 1, _, rfl, rfl, ⟨?_, ?_, upd_same _ _ _, ?_, .inr ⟨nx + 1 + 1, rfl, by omega, by omega, ?_⟩, by omega, by omega⟩, by simp, hg9, by omega, T9⟩
          · (repeat rw [upd_other (by omega)]); exact r09
          · (repeat rw [upd_other (by omega)]); exact q9
          · exact nilRow_keep rg (by omega) fun j h1 h2 => by (repeat rw [upd_other (by omega)]); exact fr9 j (by omega) (by omega)
          · rw [upd_other (by omega), upd_same]; rfl
        · have hrow9 := (fr9 id (by omega) (by omega)).trans hrow
          have e3 : (id == 2) = false := neB (by omega)
          have e4 : (nx + 1 == id) = false := neB (by omega)
          have e5 : (nx == id) = false := neB (by omega)
          have e9 : (nx + 1 + 1 == id) = false := neB (by omega)
          simp only [push_cast, Nat.reduceBEq, Nat.reduceAdd, Nat.reduceEqDiff, reduceCtorEq, Nat.reduceLeDiff, Nat.reduceSub, Nat.reduceMul, Nat.reduceLT, Int.reduceEq, Int.reduceLT, Int.reduceLE, Int.reduceBEq, Int.reduceBNe, Int.reduceToNat, Int.reduceNeg, Int.reduceSub, Int.reduceAdd, strA, s9, r29, hwk, hrow9, hb56, e0, e2, e3, e4, e5, e6, e7, e8, e9]
          refine ⟨_, hm, k + 1, n ++ [(⟨(x1 : Int), ⟨(x2 : Int), (x3 : Int), y4, y5⟩⟩ : AddD)], _, l9, b9, nx + 1 + 1 + 1, _, rfl, rfl, ⟨?_, ?_, upd_same _ _ _, ?_, .inr ⟨nx + 1 + 1, ?_, by omega, by omega, ?_⟩, by omega, by omega⟩, by simp; omega, fun h => by rw [List.length_append]; exact hg9 h, by omega, T9⟩
          · (repeat rw [upd_other (by omega)]); exact r09
          · (repeat rw [upd_other (by omega)]); exact q9
          · rcases rg with h | ⟨c', rfl, c3, c4, hc⟩
            · exact .inl h
            · have hcg : c' ≠ id := fun e => by rw [e, hrow] at hc; injection hc with hc; injection hc with _ hc; exact absurd hc (by decide)
              exact .inr ⟨c', rfl, c3, by omega, by (repeat rw [upd_other (by omega)]); exact (fr9 c' (by omega) (by omega)).trans hc⟩
          · simp
          · rw [upd_other (by omega), upd_same, List.map_append]; rfl
      · obtain rfl : k = z4 := by omega
        have hv0 : ¬ (k : Int) < (k : Int) := by omega
        rw [Nat.sub_self] at hT
        simp only [push_cast, Nat.reduceBEq, Nat.reduceAdd, Nat.reduceEqDiff, reduceCtorEq, Nat.reduceLeDiff, Nat.reduceSub, Nat.reduceMul, Nat.reduceLT, Int.reduceEq, Int.reduceLT, Int.reduceLE, Int.reduceBEq, Int.reduceBNe, Int.reduceToNat, Int.reduceNeg, Int.reduceSub, Int.reduceAdd, hv0, r1]
        exact ⟨gv, n, nv, l, false, nx, H, rfl, ⟨r0, r1, r2, rg, rn, n3, ll⟩, hg1, hT⟩
  clear r04 q4 r24 hl4 t4 w4 rg4 n3
  rintro _ ⟨gv, n, nv, l, bad, nx, H, rfl, hA, hn1, hT⟩
  obtain ⟨r0, r1, r2, rg, rn, n3, ll⟩ := hA
  unfold inR at r1
  unfold zE5 at r0
  simp only [push_cast, Nat.reduceBEq, Nat.reduceAdd, Nat.reduceEqDiff, reduceCtorEq, Nat.reduceLeDiff, Nat.reduceSub, Nat.reduceMul, Nat.reduceLT, Int.reduceEq, Int.reduceLT, Int.reduceLE, Int.reduceBEq, Int.reduceBNe, Int.reduceToNat, Int.reduceNeg, Int.reduceSub, Int.reduceAdd]
  cases bad with
  | true =>
    have hd : decD b = (noE, 2) := by
      have : p0 pR b = none := by rcases hT with h | h; exact h.2; cases h.1
      unfold decD; rw [this]
    rw [hd]
    simp only [push_cast, Nat.reduceBEq, Nat.reduceAdd, Nat.reduceEqDiff, reduceCtorEq, Nat.reduceLeDiff, Nat.reduceSub, Nat.reduceMul, Nat.reduceLT, Int.reduceEq, Int.reduceLT, Int.reduceLE, Int.reduceBEq, Int.reduceBNe, Int.reduceToNat, Int.reduceNeg, Int.reduceSub, Int.reduceAdd, r0, r1]
    rfl
  | false =>
    have hP : p0 pR b = some (⟨z1, z2, z3, g, n⟩, l) := by rcases hT with h | h; cases h.1; exact h.2
    have v0 := nilRow_view0 rg
    have v1 := nilRow_view0 rn
    have hc1 := nilRow_one rg
    have hd1 := nilRow_one rn
    simp only [AV.isOne, Value.oneCell'] at hc1 hd1
    simp only [push_cast, Nat.reduceBEq, Nat.reduceAdd, Nat.reduceEqDiff, reduceCtorEq, Nat.reduceLeDiff, Nat.reduceSub, Nat.reduceMul, Nat.reduceLT, Int.reduceEq, Int.reduceLT, Int.reduceLE, Int.reduceBEq, Int.reduceBNe, Int.reduceToNat, Int.reduceNeg, Int.reduceSub, Int.reduceAdd, r0, r1, r2]
    cases hr : rightB ⟨z1, z2, z3, g, n⟩ with
    | false =>
      have hd : decD b = (noE, 2) := by unfold decD; rw [hP]; simp only [hr]; rfl
      have hR : Hv.ACalls Try.prog 48 ([AV.agg [.lit (.int .i64 z1), .lit (.int .i64 z2), .lit (.int .i64 z3), gv, nv]].map (AV.view H)) (.tup [.lit (.string ⟨#[]⟩), .lit (.int .i64 2)]) := by
        show Hv.ACalls _ _ [.agg [.lit (.int .i64 z1), .lit (.int .i64 z2), .lit (.int .i64 z3), AV.view1 H gv, AV.view1 H nv]] _
        rw [v0, v1]; exact docEncode_no ⟨z1, z2, z3, g, n⟩ hr
      rw [hd]
      refine callK hR ?_
      simp only [push_cast, Nat.reduceBEq, Nat.reduceAdd, Nat.reduceEqDiff, reduceCtorEq, Nat.reduceLeDiff, Nat.reduceSub, Nat.reduceMul, Nat.reduceLT, Int.reduceEq, Int.reduceLT, Int.reduceLE, Int.reduceBEq, Int.reduceBNe, Int.reduceToNat, Int.reduceNeg, Int.reduceSub, Int.reduceAdd, r0, r1, r2, hr]
      rfl
    | true =>
      have hR : Hv.ACalls Try.prog 48 ([AV.agg [.lit (.int .i64 z1), .lit (.int .i64 z2), .lit (.int .i64 z3), gv, nv]].map (AV.view H)) (.tup [.lit (.string (str (edE ⟨z1, z2, z3, g, n⟩))), .lit (.int .i64 0)]) := by
        show Hv.ACalls _ _ [.agg [.lit (.int .i64 z1), .lit (.int .i64 z2), .lit (.int .i64 z3), AV.view1 H gv, AV.view1 H nv]] _
        rw [v0, v1]; exact docEncode_yes ⟨z1, z2, z3, g, n⟩ hr
      refine callK hR ?_
      by_cases hb' : edE ⟨z1, z2, z3, g, n⟩ = b
      · have hd : decD b = (⟨z1, z2, z3, g, n⟩, 0) := by unfold decD; rw [hP]; simp only; rw [if_pos ⟨hr, hb'⟩]
        rw [hd]
        have v2 := nilRow_view (H' := upd H 0 (some (.cells [.lit (.int .i64 z1), .lit (.int .i64 z2), .lit (.int .i64 z3), gv, nv]))) rg (fun j hj => upd_other (by omega))
        have v3 := nilRow_view (H' := upd H 0 (some (.cells [.lit (.int .i64 z1), .lit (.int .i64 z2), .lit (.int .i64 z3), gv, nv]))) rn (fun j hj => upd_other (by omega))
        simp only [push_cast, Nat.reduceBEq, Nat.reduceAdd, Nat.reduceEqDiff, reduceCtorEq, Nat.reduceLeDiff, Nat.reduceSub, Nat.reduceMul, Nat.reduceLT, Int.reduceEq, Int.reduceLT, Int.reduceLE, Int.reduceBEq, Int.reduceBNe, Int.reduceToNat, Int.reduceNeg, Int.reduceSub, Int.reduceAdd, AV.view1] at v2 v3
        simp only [push_cast, Nat.reduceBEq, Nat.reduceAdd, Nat.reduceEqDiff, reduceCtorEq, Nat.reduceLeDiff, Nat.reduceSub, Nat.reduceMul, Nat.reduceLT, Int.reduceEq, Int.reduceLT, Int.reduceLE, Int.reduceBEq, Int.reduceBNe, Int.reduceToNat, Int.reduceNeg, Int.reduceSub, Int.reduceAdd, r0, r1, r2, hr, hc1, hd1, v2, v3, hb']
        rfl
      · have hd : decD b = (noE, 2) := by unfold decD; rw [hP]; simp only; rw [if_neg fun q => hb' q.2]
        have hne : ((str (edE ⟨z1, z2, z3, g, n⟩)).toList == (str b).toList) = false := by
          rw [beq_eq_false_iff_ne]
          intro h
          apply hb'
          have := congrArg List.length h
          rw [ByteArray.toList_eq, ByteArray.toList_eq] at h
          simpa [str] using h
        rw [hd]
        simp only [push_cast, Nat.reduceBEq, Nat.reduceAdd, Nat.reduceEqDiff, reduceCtorEq, Nat.reduceLeDiff, Nat.reduceSub, Nat.reduceMul, Nat.reduceLT, Int.reduceEq, Int.reduceLT, Int.reduceLE, Int.reduceBEq, Int.reduceBNe, Int.reduceToNat, Int.reduceNeg, Int.reduceSub, Int.reduceAdd, r0, r1, r2, hr, hc1, hd1, hne]
        rfl
end Go.Proofs.Ytheanmfdfoefoaa
