/- An edit out of bytes: edit.Decode, by the walk over a heap. -/
import Derived.Test.YtheanmfdfoefoaaEdIn
import Derived.Test.YtheanmfdfoefoaaEdTo
set_option linter.unusedVariables false
set_option linter.unusedSimpArgs false
namespace Go.Proofs.Ytheanmfdfoefoaa
open Go Go.RowKit Hv
set_option maxRecDepth 20000
set_option maxHeartbeats 8000000
/-- Where taking stands: it has failed, or what is left tells the rest. -/
def Tr {α : Type} (P : Option α) (bad : Bool) (X : Option α) : Prop := (bad = true ∧ P = none) ∨ (bad = false ∧ P = X)
theorem nxt_good {α : Type} {o : Option (α × List UInt8)} {l l' : List UInt8} {bad bad' : Bool} {z : α} (h : Nxt o l bad z l' bad') (hb : bad' = false) : bad = false ∧ o = some (z, l') := by
  cases bad with
  | true => rw [h.no (.inl rfl)] at hb; cases hb
  | false =>
    cases ho : o with
    | none => rw [h.no (.inr ho)] at hb; cases hb
    | some x =>
      obtain ⟨x, r⟩ := x
      obtain ⟨h1, h2, _⟩ := h.yes x r rfl ho
      rw [h1, h2]; exact ⟨rfl, rfl⟩
theorem tr_step {α β : Type} {P X : Option α} {bad bad' : Bool} {o : Option (β × List UInt8)} {l l' : List UInt8} {z : β} (K : β → List UInt8 → Option α) (h : Tr P bad X) (hn : Nxt o l bad z l' bad')
    (h1 : o = none → X = none) (h2 : ∀ c r, o = some (c, r) → X = K c r) : Tr P bad' (K z l') := by
  rcases h with ⟨hb, hP⟩ | ⟨hb, hP⟩
  · exact .inl ⟨hn.no (.inl hb), hP⟩
  · cases ho : o with
    | none => exact .inl ⟨hn.no (.inr ho), hP.trans (h1 ho)⟩
    | some x =>
      obtain ⟨x, r⟩ := x
      obtain ⟨e1, e2, e3⟩ := hn.yes x r hb ho
      rw [e1, e2]
      exact .inr ⟨e3, hP.trans (h2 x r ho)⟩
theorem pZ_some {l r : List UInt8} {c : Int} (h : pZ l = some (c, r)) : ∃ n : Nat, c = (n : Int) ∧ pN l = some (n, r) ∧ n ≤ 4611686018427387904 ∧ r.length < l.length := by
  unfold pZ at h
  cases hN : pN l with
  | none => rw [hN] at h; cases h
  | some x =>
    obtain ⟨n, r'⟩ := x
    rw [hN] at h
    injection h with h
    injection h with h1 h2
    have h2 : r' = r := h2
    subst h2
    obtain ⟨e1, e2⟩ := pN_inv hN
    refine ⟨n, h1.symm, rfl, e2, ?_⟩
    have := putB_pos n
    rw [e1, List.length_append]; omega
theorem pZ_no {l : List UInt8} (h : pZ l = none) : pN l = none := by
  unfold pZ at h
  cases hN : pN l with
  | none => rfl
  | some x => rw [hN] at h; cases h
/-- Within a place, a table. -/
def p4a (z : Int × Int × Int) (c : Nat) (acc : List PlD) (a : Int) (l : List UInt8) : Option (EdD × List UInt8) := match pZ l with
  | none => none
  | some (b, l) => p4 z c (acc ++ [⟨a, b⟩]) l
def p6d (z : Int × Int × Int) (g : List PlD) (c : Nat) (acc : List AddD) (x y w : Int) (s : ByteArray) (l : List UInt8) : Option (EdD × List UInt8) := match pT l with
  | none => none
  | some (t, l) => p6 z g c (acc ++ [⟨x, ⟨y, w, s, t⟩⟩]) l
def p6c (z : Int × Int × Int) (g : List PlD) (c : Nat) (acc : List AddD) (x y w : Int) (l : List UInt8) : Option (EdD × List UInt8) := match pT l with
  | none => none
  | some (s, l) => p6d z g c acc x y w s l
def p6b (z : Int × Int × Int) (g : List PlD) (c : Nat) (acc : List AddD) (x y : Int) (l : List UInt8) : Option (EdD × List UInt8) := match pZ l with
  | none => none
  | some (w, l) => p6c z g c acc x y w l
def p6a (z : Int × Int × Int) (g : List PlD) (c : Nat) (acc : List AddD) (x : Int) (l : List UInt8) : Option (EdD × List UInt8) := match pZ l with
  | none => none
  | some (y, l) => p6b z g c acc x y l
theorem p3_none {z : Int × Int × Int} {l : List UInt8} (h : pZ l = none) : p3 z l = none := by unfold p3; rw [pZ_no h]
theorem p3_some {z : Int × Int × Int} {l r : List UInt8} {c : Int} (h : pZ l = some (c, r)) : p3 z l = p4 z c.toNat [] r := by
  obtain ⟨n, rfl, h, _⟩ := pZ_some h
  unfold p3; rw [h]; rfl
theorem p5_none {z : Int × Int × Int} {g : List PlD} {l : List UInt8} (h : pZ l = none) : p5 z g l = none := by unfold p5; rw [pZ_no h]
theorem p5_some {z : Int × Int × Int} {g : List PlD} {l r : List UInt8} {c : Int} (h : pZ l = some (c, r)) : p5 z g l = p6 z g c.toNat [] r := by
  obtain ⟨n, rfl, h, _⟩ := pZ_some h
  unfold p5; rw [h]; rfl
theorem p4_none {z : Int × Int × Int} {c : Nat} {acc : List PlD} {l : List UInt8} (h : pZ l = none) : p4 z (c + 1) acc l = none := by
  unfold p4 pMany pPl; rw [pZ_no h]
theorem p4_some {z : Int × Int × Int} {c : Nat} {acc : List PlD} {l r : List UInt8} {a : Int} (h : pZ l = some (a, r)) : p4 z (c + 1) acc l = p4a z c acc a r := by
  obtain ⟨n, rfl, h, _⟩ := pZ_some h
  unfold p4a p4
  rw [pMany]; unfold pPl
  rw [h]
  unfold pZ
  cases hN : pN r with
  | none => simp [hN]
  | some x => simp [hN]
theorem p6_none {z : Int × Int × Int} {g : List PlD} {c : Nat} {acc : List AddD} {l : List UInt8} (h : pZ l = none) : p6 z g (c + 1) acc l = none := by
  unfold p6 pMany pAd; rw [pZ_no h]
theorem p6_some {z : Int × Int × Int} {g : List PlD} {c : Nat} {acc : List AddD} {l r : List UInt8} {a : Int} (h : pZ l = some (a, r)) : p6 z g (c + 1) acc l = p6a z g c acc a r := by
  obtain ⟨n, rfl, h, _⟩ := pZ_some h
  unfold p6a p6
  rw [pMany]; unfold pAd
  rw [h]
  unfold pZ
  cases hN : pN r with
  | none => simp [hN]
  | some x =>
    obtain ⟨y, r1⟩ := x
    unfold p6b pZ
    cases hN1 : pN r1 with
    | none => simp [hN, hN1]
    | some x =>
      obtain ⟨w, r2⟩ := x
      unfold p6c
      cases hN2 : pT r2 with
      | none => simp [hN, hN1, hN2]
      | some x =>
        obtain ⟨s, r3⟩ := x
        unfold p6d p6
        cases hN3 : pT r3 with
        | none => simp [hN, hN1, hN2, hN3]
        | some x => obtain ⟨t, r4⟩ := x; simp [hN, hN1, hN2, hN3]; rfl
theorem pT_len {l r : List UInt8} {s : ByteArray} (h : pT l = some (s, r)) : r.length ≤ l.length := by
  rw [pT_inv h, List.length_append]; omega
def zE5 : List AV := [.lit (.int .i64 0), .lit (.int .i64 0), .lit (.int .i64 0), .lit (.slice none 0 0), .lit (.slice none 0 0)]
/-- Taking's memory: the answer, the input, the edit so far. -/
structure DecA (C : List UInt8 → Bool → List AV) (tp ta i0 i1 i2 : Nat) (b : List UInt8) (a c d : Int) (g : List PlD) (gv : AV) (n : List AddD) (nv : AV) (l : List UInt8) (bad : Bool) (H : Hp) (nx : Nat) : Prop where
  r0 : H i0 = some (.cells zE5)
  r1 : H i1 = some (.cells (C l bad))
  r2 : H i2 = some (.cells [.lit (.int .i64 a), .lit (.int .i64 c), .lit (.int .i64 d), gv, nv])
  rg : NilRow H nx tp 2 gv (g.map plH)
  rn : NilRow H nx ta 5 nv (n.map addH)
  n3 : 3 ≤ nx
  ll : l.length ≤ b.length
theorem nilRow_view0 {H : Hp} {nx t sz : Nat} {c : AV} {items : List (List AV)} (h : NilRow H nx t sz c items) : AV.view1 H c = .sl items := by
  rcases h with ⟨rfl, rfl⟩ | ⟨id, rfl, h2, h3, h4⟩
  · rfl
  · unfold AV.view1
    simp only [h4, fits, piece, Nat.beq_refl, cond_true, Nat.ble_self_eq_true]
    rw [List.take_of_length_le (by simp)]
theorem decode_h (b : List UInt8) (hb : b.length ≤ 4000000) : Hv.ACalls Try.prog 51 [.sl (byL b)] (.tup [edH (decE b).1, .lit (.int .i64 (decE b).2)]) := by
  refine acallsC_of (rs := [.cell 2 67, .tmp 3]) ⟨[0, 2, 3, 4, 5, 6, 7, 28, 51, 87], [], [], [(6, [(0, [], []), (1, [], []), (2, [], []), (4, [], []), (3, [1], [2]), (5, [1], [4, 3, 2]), (6, [], []), (7, [], []), (8, [], [1, 7, 5, 0, 6, 4, 3, 2]), (9, [], []), (10, [], [9, 8, 0, 1, 2, 3, 4, 5, 6, 7])]), (10, [(0, [], []), (1, [], []), (2, [], []), (4, [], []), (6, [], []), (8, [], []), (10, [], []), (3, [1], [2]), (5, [1], [4, 3, 2]), (7, [1], [6, 5, 4, 3, 2]), (9, [1], [8, 7, 6, 5, 4, 3, 2]), (11, [1], [10, 9, 8, 7, 6, 5, 4, 3, 2]), (12, [], []), (13, [], []), (14, [], []), (15, [], [1, 14, 11, 0, 13, 10, 9, 3, 12, 8, 7, 2, 5, 6, 4]), (16, [], []), (17, [], [16, 15, 0, 1, 2, 3, 4, 5, 6, 7, 8, 9, 10, 11, 12, 13, 14])])], [7, 11]⟩ TOk mixed Try.func51 rfl rfl (by kernel_rfl) (by kernel_rfl) rfl (nid1 (noId_by b)) (by rw [noId_tup]; exact nid2 (noId_ed _) (.lit _)) ?_
  simp only [push_cast, Nat.reduceBEq, Nat.reduceAdd, Nat.reduceEqDiff, reduceCtorEq, Nat.reduceLeDiff, Nat.reduceSub, Nat.reduceMul, Nat.reduceLT, Int.reduceEq, Int.reduceLT, Int.reduceLE, Int.reduceBEq, Int.reduceBNe, Int.reduceToNat, Int.reduceNeg, Int.reduceSub, Int.reduceAdd]
  have t0 : Tr (p0 pS b) false (p0 pS b) := .inr ⟨rfl, rfl⟩
  refine callH (signed_h (l := b) (bad := false) rfl) ?_
  rintro _ H1 _ ⟨z1, l1, b1, rfl, rfl, q1, f1, N1⟩
  have t1 := tr_step (p1 pS) t0 N1 (fun h => by unfold p0; rw [h]) (fun c r h => by unfold p0; rw [h])
  simp only [push_cast, Nat.reduceBEq, Nat.reduceAdd, Nat.reduceEqDiff, reduceCtorEq, Nat.reduceLeDiff, Nat.reduceSub, Nat.reduceMul, Nat.reduceLT, Int.reduceEq, Int.reduceLT, Int.reduceLE, Int.reduceBEq, Int.reduceBNe, Int.reduceToNat, Int.reduceNeg, Int.reduceSub, Int.reduceAdd, i64A]
  refine callH (signed_h q1) ?_
  rintro _ H2 _ ⟨z2, l2, b2, rfl, rfl, q2, f2, N2⟩
  have t2 := tr_step (fun c => p2 pS (z1, c)) t1 N2 (fun h => by unfold p1; rw [h]) (fun c r h => by unfold p1; rw [h])
  simp only [push_cast, Nat.reduceBEq, Nat.reduceAdd, Nat.reduceEqDiff, reduceCtorEq, Nat.reduceLeDiff, Nat.reduceSub, Nat.reduceMul, Nat.reduceLT, Int.reduceEq, Int.reduceLT, Int.reduceLE, Int.reduceBEq, Int.reduceBNe, Int.reduceToNat, Int.reduceNeg, Int.reduceSub, Int.reduceAdd, i64A]
  refine callH (signed_h q2) ?_
  rintro _ H3 _ ⟨z3, l3, b3, rfl, rfl, q3, f3, N3⟩
  have t3 := tr_step (fun c => p3 (z1, z2, c)) t2 N3 (fun h => by unfold p2; rw [h]) (fun c r h => by unfold p2; rw [h])
  have r0 : H3 0 = some (.cells zE5) := (f3 0 (by decide)).trans ((f2 0 (by decide)).trans ((f1 0 (by decide)).trans rfl))
  have hl3 : l3.length ≤ b.length := Nat.le_trans N3.len (Nat.le_trans N2.len N1.len)
  clear f1 f2 f3 N1 N2 N3 q1 q2 t0 t1 t2
  simp (disch := omega) only [push_cast, Hv.neB, Nat.reduceBEq, Nat.reduceAdd, Nat.reduceEqDiff, reduceCtorEq, Nat.reduceLeDiff, Nat.reduceSub, Nat.reduceMul, Nat.reduceLT, Int.reduceEq, Int.reduceLT, Int.reduceLE, Int.reduceBEq, Int.reduceBNe, Int.reduceToNat, Int.reduceNeg, Int.reduceSub, Int.reduceAdd, i64A]
  refine cutK (fun s => ∃ (g : List PlD) (gv : AV) (l : List UInt8) (bad : Bool) (nx : Nat) (H : Hp), s = ⟨[(2, .ptr 0 0), (3, .lit (.int .i64 0)), (4, .ptr 1 0), (5, .ptr 2 0)], H, nx⟩ ∧ DecA inC 120 93 0 1 2 b z1 z2 z3 g gv [] (.lit (.slice none 0 0)) l bad H nx ∧ g.length ≤ b.length + 1 ∧ Tr (p0 pS b) bad (p5 (z1, z2, z3) g l)) [2, 3, 4, 5] ?_ ?_
  · simp (disch := omega) only [push_cast, Hv.neB, Nat.reduceBEq, Nat.reduceAdd, Nat.reduceEqDiff, reduceCtorEq, Nat.reduceLeDiff, Nat.reduceSub, Nat.reduceMul, Nat.reduceLT, Int.reduceEq, Int.reduceLT, Int.reduceLE, Int.reduceBEq, Int.reduceBNe, Int.reduceToNat, Int.reduceNeg, Int.reduceSub, Int.reduceAdd]
    refine callH (num_h (l := l3) (bad := b3) (by exact q3)) ?_
    rintro _ H4 _ ⟨z4, l4, b4, rfl, rfl, q4, f4, N4⟩
    have t4 := tr_step (fun c => p4 (z1, z2, z3) c.toNat []) t3 N4 p3_none (fun c r h => p3_some h)
    have hz4 : b4 = false → 0 ≤ z4 ∧ z4 ≤ 4611686018427387904 := fun h => by
      obtain ⟨n, hn, _, h1, _⟩ := pZ_some (nxt_good N4 h).2
      omega
    have r04 : H4 0 = some (.cells zE5) := (f4 0 (by decide)).trans r0
    have r24 : H4 2 = some (.cells [.lit (.int .i64 z1), .lit (.int .i64 z2), .lit (.int .i64 z3), .lit (.slice none 0 0), .lit (.slice none 0 0)]) := (f4 2 (by decide)).trans rfl
    have hl4 : l4.length ≤ b.length := Nat.le_trans N4.len hl3
    clear f4 N4 q3 t3 hl3 r0
    simp (disch := omega) only [push_cast, Hv.neB, Nat.reduceBEq, Nat.reduceAdd, Nat.reduceEqDiff, reduceCtorEq, Nat.reduceLeDiff, Nat.reduceSub, Nat.reduceMul, Nat.reduceLT, Int.reduceEq, Int.reduceLT, Int.reduceLE, Int.reduceBEq, Int.reduceBNe, Int.reduceToNat, Int.reduceNeg, Int.reduceSub, Int.reduceAdd, i64A]
    refine loopK (fun m s => ∃ (v : Int) (g : List PlD) (gv : AV) (l : List UInt8) (bad : Bool) (nx : Nat) (H : Hp), s = ⟨[(2, .ptr 0 0), (3, .lit (.int .i64 0)), (4, .ptr 1 0), (5, .ptr 2 0), (6, .lit (.int .i64 v))], H, nx⟩ ∧ m = (if bad = true then 0 else l.length + 1) ∧ DecA inC 120 93 0 1 2 b z1 z2 z3 g gv [] (.lit (.slice none 0 0)) l bad H nx ∧ g.length ≤ b.length + 1 ∧ (bad = false → g.length + l.length ≤ b.length) ∧ (bad = false → 0 ≤ v ∧ v ≤ 4611686018427387904) ∧ Tr (p0 pS b) bad (p4 (z1, z2, z3) v.toNat g l)) _ [2, 3, 4, 5, 6] (by exact ⟨z4, [], _, l4, b4, 3, H4, rfl, rfl, ⟨r04, q4, r24, .inl ⟨rfl, rfl⟩, .inl ⟨rfl, rfl⟩, by omega, hl4⟩, Nat.zero_le _, fun _ => by simpa using hl4, hz4, t4⟩) ?_
    clear r04 q4 r24 hl4 hz4 t4
    rintro m _ ⟨v, g, gv, l, bad, nx, H, rfl, rfl, hA, hg1, hg2, hv, hT⟩
    obtain ⟨r0, r1, r2, rg, rn, n3, ll⟩ := hA
    unfold inC at r1
    cases bad with
    | true =>
      have hT' : Tr (p0 pS b) true (p5 (z1, z2, z3) g l) := .inl ⟨rfl, by rcases hT with h | h; exact h.2; cases h.1⟩
      by_cases hv0 : v > 0
      · simp (disch := omega) only [push_cast, Hv.neB, Nat.reduceBEq, Nat.reduceAdd, Nat.reduceEqDiff, reduceCtorEq, Nat.reduceLeDiff, Nat.reduceSub, Nat.reduceMul, Nat.reduceLT, Int.reduceEq, Int.reduceLT, Int.reduceLE, Int.reduceBEq, Int.reduceBNe, Int.reduceToNat, Int.reduceNeg, Int.reduceSub, Int.reduceAdd, hv0, r1]
        exact ⟨g, gv, l, true, nx, H, rfl, ⟨r0, r1, r2, rg, rn, n3, ll⟩, hg1, hT'⟩
      · simp (disch := omega) only [push_cast, Hv.neB, Nat.reduceBEq, Nat.reduceAdd, Nat.reduceEqDiff, reduceCtorEq, Nat.reduceLeDiff, Nat.reduceSub, Nat.reduceMul, Nat.reduceLT, Int.reduceEq, Int.reduceLT, Int.reduceLE, Int.reduceBEq, Int.reduceBNe, Int.reduceToNat, Int.reduceNeg, Int.reduceSub, Int.reduceAdd, hv0, r1]
        exact ⟨g, gv, l, true, nx, H, rfl, ⟨r0, r1, r2, rg, rn, n3, ll⟩, hg1, hT'⟩
    | false =>
      obtain ⟨hv1, hv2⟩ := hv rfl
      have hg2 := hg2 rfl
      by_cases hv0 : v > 0
      · simp (disch := omega) only [push_cast, Hv.neB, Nat.reduceBEq, Nat.reduceAdd, Nat.reduceEqDiff, reduceCtorEq, Nat.reduceLeDiff, Nat.reduceSub, Nat.reduceMul, Nat.reduceLT, Int.reduceEq, Int.reduceLT, Int.reduceLE, Int.reduceBEq, Int.reduceBNe, Int.reduceToNat, Int.reduceNeg, Int.reduceSub, Int.reduceAdd, hv0, r1, r2]
        refine callHD (num_h (l := l) (bad := false) r1) ?_
        rintro _ H5 ny ⟨x1, l5, b5, rfl, rfl, q5, f5, N5⟩
        have r25 := (f5 2 (by decide)).trans r2
        simp (disch := omega) only [push_cast, Hv.neB, Nat.reduceBEq, Nat.reduceAdd, Nat.reduceEqDiff, reduceCtorEq, Nat.reduceLeDiff, Nat.reduceSub, Nat.reduceMul, Nat.reduceLT, Int.reduceEq, Int.reduceLT, Int.reduceLE, Int.reduceBEq, Int.reduceBNe, Int.reduceToNat, Int.reduceNeg, Int.reduceSub, Int.reduceAdd, i64A, r25]
        refine callHD (num_h q5) ?_
        rintro _ H6 nx ⟨x2, l6, b6, rfl, rfl, q6, f6, N6⟩
        have r26 := (f6 2 (by decide)).trans r25
        have r06 := (f6 0 (by decide)).trans ((f5 0 (by decide)).trans r0)
        obtain ⟨u, hu⟩ : ∃ u : Nat, v = ((u + 1 : Nat) : Int) := ⟨v.toNat - 1, by omega⟩
        subst hu
        have hw : IntKind.i64.wrap ((u : Int) + 1 - 1) = (u : Int) := by
          rw [show (u : Int) + 1 - 1 = (u : Int) by omega]; exact IntWalk.i64_in _ (by omega)
        have T5 := tr_step (fun a => p4a (z1, z2, z3) u g a) hT N5 (fun h => by rw [Int.toNat_natCast]; exact p4_none h) (fun a r h => by rw [Int.toNat_natCast]; exact p4_some h)
        have T6 := tr_step (fun a => p4 (z1, z2, z3) u (g ++ [⟨x1, a⟩])) T5 N6 (fun h => by unfold p4a; rw [h]) (fun a r h => by unfold p4a; rw [h])
        have hl6 : l6.length ≤ b.length := Nat.le_trans N6.len (Nat.le_trans N5.len ll)
        have hm : (if b6 = true then 0 else l6.length + 1) < (if false = true then 0 else l.length + 1) := by
          cases b6 with
          | true => simp
          | false =>
            have h5 := (nxt_good N6 rfl).1
            obtain ⟨_, _, _, _, h6⟩ := pZ_some (nxt_good N5 h5).2
            have := N6.len
            simp; omega
        have hg6 : b6 = false → g.length + 1 + l6.length ≤ b.length := fun h => by
          have h5 := (nxt_good N6 h).1
          obtain ⟨_, _, _, _, h6⟩ := pZ_some (nxt_good N5 h5).2
          have := N6.len
          omega
        have hb16 : (g.length + 1) * 16 ≤ 140737488355328 := by omega
        rcases rg with ⟨rfl, hnil⟩ | ⟨id, rfl, i3, ilt, hrow⟩
        · obtain rfl : g = [] := by simpa using hnil
          have e2 : (nx == 2) = false := neB (by omega)
          simp only [push_cast, Nat.reduceBEq, Nat.reduceAdd, Nat.reduceEqDiff, reduceCtorEq, Nat.reduceLeDiff, Nat.reduceSub, Nat.reduceMul, Nat.reduceLT, Int.reduceEq, Int.reduceLT, Int.reduceLE, Int.reduceBEq, Int.reduceBNe, Int.reduceToNat, Int.reduceNeg, Int.reduceSub, Int.reduceAdd, i64A, r26, hw, e2]
          refine ⟨_, hm, (u : Int), [⟨x1, x2⟩], _, l6, b6, nx + 1, _, rfl, rfl, ⟨?_, ?_, upd_same _ _ _, .inr ⟨nx, rfl, by omega, by omega, ?_⟩, .inl ⟨rfl, rfl⟩, by omega, hl6⟩, by simp, hg6, fun _ => ⟨by omega, by omega⟩, T6⟩
          · rw [upd_other (by omega), upd_other (by omega)]; exact r06
          · rw [upd_other (by omega), upd_other (by omega)]; exact q6
          · rw [upd_other (by omega), upd_same]; rfl
        · have hrow6 := (f6 id (by omega)).trans ((f5 id (by omega)).trans hrow)
          have e2 : (nx == 2) = false := neB (by omega)
          have e3 : (id == 2) = false := neB (by omega)
          have e4 : (nx == id) = false := neB (by omega)
          have hlen : (g.map plH).length = g.length := List.length_map ..
          simp only [push_cast, Nat.reduceBEq, Nat.reduceAdd, Nat.reduceEqDiff, reduceCtorEq, Nat.reduceLeDiff, Nat.reduceSub, Nat.reduceMul, Nat.reduceLT, Int.reduceEq, Int.reduceLT, Int.reduceLE, Int.reduceBEq, Int.reduceBNe, Int.reduceToNat, Int.reduceNeg, Int.reduceSub, Int.reduceAdd, i64A, r26, hw, hrow6, hb16, e2, e3, e4]
          refine ⟨_, hm, (u : Int), g ++ [(⟨x1, x2⟩ : PlD)], _, l6, b6, nx + 1, _, rfl, rfl, ⟨?_, ?_, upd_same _ _ _, .inr ⟨nx, ?_, by omega, by omega, ?_⟩, .inl ⟨rfl, rfl⟩, by omega, hl6⟩, by simp; omega, fun h => by rw [List.length_append]; exact hg6 h, fun _ => ⟨by omega, by omega⟩, T6⟩
          · rw [upd_other (by omega), upd_other (by omega), upd_other (by omega)]; exact r06
          · rw [upd_other (by omega), upd_other (by omega), upd_other (by omega)]; exact q6
          · simp
          · rw [upd_other (by omega), upd_same, List.map_append]; rfl
      · have hv00 : v = 0 := by omega
        subst hv00
        simp (disch := omega) only [push_cast, Hv.neB, Nat.reduceBEq, Nat.reduceAdd, Nat.reduceEqDiff, reduceCtorEq, Nat.reduceLeDiff, Nat.reduceSub, Nat.reduceMul, Nat.reduceLT, Int.reduceEq, Int.reduceLT, Int.reduceLE, Int.reduceBEq, Int.reduceBNe, Int.reduceToNat, Int.reduceNeg, Int.reduceSub, Int.reduceAdd, hv0, r1]
        exact ⟨g, gv, l, false, nx, H, rfl, ⟨r0, r1, r2, rg, rn, n3, ll⟩, hg1, hT⟩
  clear q3 t3 hl3 r0
  rintro _ ⟨g, gv, l, bad, nx, H, rfl, hA, hg1, hT⟩
  simp only [push_cast, Nat.reduceBEq, Nat.reduceAdd, Nat.reduceEqDiff, reduceCtorEq, Nat.reduceLeDiff, Nat.reduceSub, Nat.reduceMul, Nat.reduceLT, Int.reduceEq, Int.reduceLT, Int.reduceLE, Int.reduceBEq, Int.reduceBNe, Int.reduceToNat, Int.reduceNeg, Int.reduceSub, Int.reduceAdd]
  refine cutK (fun s => ∃ (gv : AV) (n : List AddD) (nv : AV) (l : List UInt8) (bad : Bool) (nx : Nat) (H : Hp), s = ⟨[(2, .ptr 0 0), (3, .lit (.int .i64 0)), (4, .ptr 1 0), (5, .ptr 2 0)], H, nx⟩ ∧ DecA inC 120 93 0 1 2 b z1 z2 z3 g gv n nv l bad H nx ∧ n.length ≤ b.length + 1 ∧ Tr (p0 pS b) bad (some (⟨z1, z2, z3, g, n⟩, l))) [2, 3, 4, 5] ?_ ?_
  · obtain ⟨r0, r1, r2, rg, rn, n3, ll⟩ := hA
    simp only [push_cast, Nat.reduceBEq, Nat.reduceAdd, Nat.reduceEqDiff, reduceCtorEq, Nat.reduceLeDiff, Nat.reduceSub, Nat.reduceMul, Nat.reduceLT, Int.reduceEq, Int.reduceLT, Int.reduceLE, Int.reduceBEq, Int.reduceBNe, Int.reduceToNat, Int.reduceNeg, Int.reduceSub, Int.reduceAdd]
    refine callH (num_h (l := l) (bad := bad) r1) ?_
    rintro _ H4 nx ⟨z4, l4, b4, rfl, rfl, q4, f4, N4⟩
    have t4 := tr_step (fun c => p6 (z1, z2, z3) g c.toNat []) hT N4 p5_none (fun c r h => p5_some h)
    have hz4 : b4 = false → 0 ≤ z4 ∧ z4 ≤ 4611686018427387904 := fun h => by
      obtain ⟨n, hn, _, h1, _⟩ := pZ_some (nxt_good N4 h).2
      omega
    have r04 := (f4 0 (by decide)).trans r0
    have r24 := (f4 2 (by decide)).trans r2
    have rg4 := nilRow_keep rg (Nat.le_refl nx) fun j hj _ => f4 j (by omega)
    have hl4 : l4.length ≤ b.length := Nat.le_trans N4.len ll
    clear f4 N4 r0 r1 r2 rg rn ll hT
    simp only [push_cast, Nat.reduceBEq, Nat.reduceAdd, Nat.reduceEqDiff, reduceCtorEq, Nat.reduceLeDiff, Nat.reduceSub, Nat.reduceMul, Nat.reduceLT, Int.reduceEq, Int.reduceLT, Int.reduceLE, Int.reduceBEq, Int.reduceBNe, Int.reduceToNat, Int.reduceNeg, Int.reduceSub, Int.reduceAdd, i64A]
    refine loopK (fun m s => ∃ (v : Int) (n : List AddD) (nv : AV) (l : List UInt8) (bad : Bool) (nx : Nat) (H : Hp), s = ⟨[(2, .ptr 0 0), (3, .lit (.int .i64 0)), (4, .ptr 1 0), (5, .ptr 2 0), (7, .lit (.int .i64 v))], H, nx⟩ ∧ m = (if bad = true then 0 else l.length + 1) ∧ DecA inC 120 93 0 1 2 b z1 z2 z3 g gv n nv l bad H nx ∧ n.length ≤ b.length + 1 ∧ (bad = false → n.length + l.length ≤ b.length) ∧ (bad = false → 0 ≤ v ∧ v ≤ 4611686018427387904) ∧ Tr (p0 pS b) bad (p6 (z1, z2, z3) g v.toNat n l)) _ [2, 3, 4, 5, 7] (by exact ⟨z4, [], _, l4, b4, nx, H4, rfl, rfl, ⟨r04, q4, r24, rg4, .inl ⟨rfl, rfl⟩, n3, hl4⟩, Nat.zero_le _, fun _ => by simpa using hl4, hz4, t4⟩) ?_
    clear r04 q4 r24 hl4 hz4 t4 rg4 n3
    rintro m _ ⟨v, n, nv, l, bad, nx, H, rfl, rfl, hA, hg1, hg2, hv, hT⟩
    obtain ⟨r0, r1, r2, rg, rn, n3, ll⟩ := hA
    unfold inC at r1
    cases bad with
    | true =>
      have hT' : Tr (p0 pS b) true (some (⟨z1, z2, z3, g, n⟩, l)) := .inl ⟨rfl, by rcases hT with h | h; exact h.2; cases h.1⟩
      by_cases hv0 : v > 0
      · simp only [push_cast, Nat.reduceBEq, Nat.reduceAdd, Nat.reduceEqDiff, reduceCtorEq, Nat.reduceLeDiff, Nat.reduceSub, Nat.reduceMul, Nat.reduceLT, Int.reduceEq, Int.reduceLT, Int.reduceLE, Int.reduceBEq, Int.reduceBNe, Int.reduceToNat, Int.reduceNeg, Int.reduceSub, Int.reduceAdd, hv0, r1]
        exact ⟨gv, n, nv, l, true, nx, H, rfl, ⟨r0, r1, r2, rg, rn, n3, ll⟩, hg1, hT'⟩
      · simp only [push_cast, Nat.reduceBEq, Nat.reduceAdd, Nat.reduceEqDiff, reduceCtorEq, Nat.reduceLeDiff, Nat.reduceSub, Nat.reduceMul, Nat.reduceLT, Int.reduceEq, Int.reduceLT, Int.reduceLE, Int.reduceBEq, Int.reduceBNe, Int.reduceToNat, Int.reduceNeg, Int.reduceSub, Int.reduceAdd, hv0, r1]
        exact ⟨gv, n, nv, l, true, nx, H, rfl, ⟨r0, r1, r2, rg, rn, n3, ll⟩, hg1, hT'⟩
    | false =>
      obtain ⟨hv1, hv2⟩ := hv rfl
      have hg2 := hg2 rfl
      by_cases hv0 : v > 0
      · simp only [push_cast, Nat.reduceBEq, Nat.reduceAdd, Nat.reduceEqDiff, reduceCtorEq, Nat.reduceLeDiff, Nat.reduceSub, Nat.reduceMul, Nat.reduceLT, Int.reduceEq, Int.reduceLT, Int.reduceLE, Int.reduceBEq, Int.reduceBNe, Int.reduceToNat, Int.reduceNeg, Int.reduceSub, Int.reduceAdd, hv0, r1, r2]
        refine callHD (num_h (l := l) (bad := false) r1) ?_
        rintro _ H5 ny ⟨x1, l5, b5, rfl, rfl, q5, f5, N5⟩
        have r25 := (f5 2 (by decide)).trans r2
        simp only [push_cast, Nat.reduceBEq, Nat.reduceAdd, Nat.reduceEqDiff, reduceCtorEq, Nat.reduceLeDiff, Nat.reduceSub, Nat.reduceMul, Nat.reduceLT, Int.reduceEq, Int.reduceLT, Int.reduceLE, Int.reduceBEq, Int.reduceBNe, Int.reduceToNat, Int.reduceNeg, Int.reduceSub, Int.reduceAdd, i64A, r25]
        refine callHD (num_h q5) ?_
        rintro _ H6 nz ⟨x2, l6, b6, rfl, rfl, q6, f6, N6⟩
        have r26 := (f6 2 (by decide)).trans r25
        simp only [push_cast, Nat.reduceBEq, Nat.reduceAdd, Nat.reduceEqDiff, reduceCtorEq, Nat.reduceLeDiff, Nat.reduceSub, Nat.reduceMul, Nat.reduceLT, Int.reduceEq, Int.reduceLT, Int.reduceLE, Int.reduceBEq, Int.reduceBNe, Int.reduceToNat, Int.reduceNeg, Int.reduceSub, Int.reduceAdd, i64A, r26]
        refine callHD (num_h q6) ?_
        rintro _ H7 nw ⟨x3, l7, b7, rfl, rfl, q7, f7, N7⟩
        have r27 := (f7 2 (by decide)).trans r26
        simp only [push_cast, Nat.reduceBEq, Nat.reduceAdd, Nat.reduceEqDiff, reduceCtorEq, Nat.reduceLeDiff, Nat.reduceSub, Nat.reduceMul, Nat.reduceLT, Int.reduceEq, Int.reduceLT, Int.reduceLE, Int.reduceBEq, Int.reduceBNe, Int.reduceToNat, Int.reduceNeg, Int.reduceSub, Int.reduceAdd, i64A, r27]
        refine callHD (text_h q7) ?_
        rintro _ H8 nv' ⟨s1, l8, b8, rfl, rfl, q8, f8, N8⟩
        have r28 := (f8 2 (by decide)).trans r27
        simp only [push_cast, Nat.reduceBEq, Nat.reduceAdd, Nat.reduceEqDiff, reduceCtorEq, Nat.reduceLeDiff, Nat.reduceSub, Nat.reduceMul, Nat.reduceLT, Int.reduceEq, Int.reduceLT, Int.reduceLE, Int.reduceBEq, Int.reduceBNe, Int.reduceToNat, Int.reduceNeg, Int.reduceSub, Int.reduceAdd, strA, r28]
        refine callHD (text_h q8) ?_
        rintro _ H9 nx ⟨s2, l9, b9, rfl, rfl, q9, f9, N9⟩
        have r29 := (f9 2 (by decide)).trans r28
        have fr : ∀ j, j ≠ 1 → H9 j = H j := fun j hj => (f9 j hj).trans ((f8 j hj).trans ((f7 j hj).trans ((f6 j hj).trans (f5 j hj))))
        have r09 := (fr 0 (by decide)).trans r0
        obtain ⟨u, hu⟩ : ∃ u : Nat, v = ((u + 1 : Nat) : Int) := ⟨v.toNat - 1, by omega⟩
        subst hu
        have hw : IntKind.i64.wrap ((u : Int) + 1 - 1) = (u : Int) := by
          rw [show (u : Int) + 1 - 1 = (u : Int) by omega]; exact IntWalk.i64_in _ (by omega)
        have T5 := tr_step (fun a => p6a (z1, z2, z3) g u n a) hT N5 (fun h => by rw [Int.toNat_natCast]; exact p6_none h) (fun a r h => by rw [Int.toNat_natCast]; exact p6_some h)
        have T6 := tr_step (fun a => p6b (z1, z2, z3) g u n x1 a) T5 N6 (fun h => by unfold p6a; rw [h]) (fun a r h => by unfold p6a; rw [h])
        have T7 := tr_step (fun a => p6c (z1, z2, z3) g u n x1 x2 a) T6 N7 (fun h => by unfold p6b; rw [h]) (fun a r h => by unfold p6b; rw [h])
        have T8 := tr_step (fun a => p6d (z1, z2, z3) g u n x1 x2 x3 a) T7 N8 (fun h => by unfold p6c; rw [h]) (fun a r h => by unfold p6c; rw [h])
        have T9 := tr_step (fun a => p6 (z1, z2, z3) g u (n ++ [⟨x1, ⟨x2, x3, s1, a⟩⟩])) T8 N9 (fun h => by unfold p6d; rw [h]) (fun a r h => by unfold p6d; rw [h])
        have hlen : l9.length ≤ l5.length ∧ l5.length ≤ l.length := ⟨Nat.le_trans N9.len (Nat.le_trans N8.len (Nat.le_trans N7.len N6.len)), N5.len⟩
        have hdec : b9 = false → l9.length + 1 ≤ l.length := fun h => by
          have h5 := (nxt_good N6 (nxt_good N7 (nxt_good N8 (nxt_good N9 h).1).1).1).1
          obtain ⟨_, _, _, _, h6⟩ := pZ_some (nxt_good N5 h5).2
          omega
        have hl9 : l9.length ≤ b.length := by omega
        have hm : (if b9 = true then 0 else l9.length + 1) < (if false = true then 0 else l.length + 1) := by
          cases b9 with
          | true => simp
          | false => have := hdec rfl; simp; omega
        have hg9 : b9 = false → n.length + 1 + l9.length ≤ b.length := fun h => by have := hdec h; omega
        have hb56 : (n.length + 1) * 56 ≤ 140737488355328 := by omega
        clear T5 T6 T7 T8 N5 N6 N7 N8 N9 hdec r25 r26 r27 r28 f5 f6 f7 f8 f9 q5 q6 q7 q8 r0 r1 r2 hT
        rcases rn with ⟨rfl, hnil⟩ | ⟨id, rfl, i3, ilt, hrow⟩
        · obtain rfl : n = [] := by simpa using hnil
          have e2 : (nx == 2) = false := neB (by omega)
          simp only [push_cast, Nat.reduceBEq, Nat.reduceAdd, Nat.reduceEqDiff, reduceCtorEq, Nat.reduceLeDiff, Nat.reduceSub, Nat.reduceMul, Nat.reduceLT, Int.reduceEq, Int.reduceLT, Int.reduceLE, Int.reduceBEq, Int.reduceBNe, Int.reduceToNat, Int.reduceNeg, Int.reduceSub, Int.reduceAdd, strA, r29, hw, e2]
          refine ⟨_, hm, (u : Int), [⟨x1, ⟨x2, x3, s1, s2⟩⟩], _, l9, b9, nx + 1, _, rfl, rfl, ⟨?_, ?_, upd_same _ _ _, ?_, .inr ⟨nx, rfl, by omega, by omega, ?_⟩, by omega, hl9⟩, by simp, hg9, fun _ => ⟨by omega, by omega⟩, T9⟩
          · rw [upd_other (by omega), upd_other (by omega)]; exact r09
          · rw [upd_other (by omega), upd_other (by omega)]; exact q9
          · exact nilRow_keep rg (by omega) fun j h1 h2 => by rw [upd_other (by omega), upd_other (by omega)]; exact fr j (by omega)
          · rw [upd_other (by omega), upd_same]; rfl
        · have hrow9 := (fr id (by omega)).trans hrow
          have e2 : (nx == 2) = false := neB (by omega)
          have e3 : (id == 2) = false := neB (by omega)
          have e4 : (nx == id) = false := neB (by omega)
          simp only [push_cast, Nat.reduceBEq, Nat.reduceAdd, Nat.reduceEqDiff, reduceCtorEq, Nat.reduceLeDiff, Nat.reduceSub, Nat.reduceMul, Nat.reduceLT, Int.reduceEq, Int.reduceLT, Int.reduceLE, Int.reduceBEq, Int.reduceBNe, Int.reduceToNat, Int.reduceNeg, Int.reduceSub, Int.reduceAdd, strA, r29, hw, hrow9, hb56, e2, e3, e4]
          refine ⟨_, hm, (u : Int), n ++ [(⟨x1, ⟨x2, x3, s1, s2⟩⟩ : AddD)], _, l9, b9, nx + 1, _, rfl, rfl, ⟨?_, ?_, upd_same _ _ _, ?_, .inr ⟨nx, ?_, by omega, by omega, ?_⟩, by omega, hl9⟩, by simp; omega, fun h => by rw [List.length_append]; exact hg9 h, fun _ => ⟨by omega, by omega⟩, T9⟩
          · rw [upd_other (by omega), upd_other (by omega), upd_other (by omega)]; exact r09
          · rw [upd_other (by omega), upd_other (by omega), upd_other (by omega)]; exact q9
          · rcases rg with h | ⟨c', rfl, c3, c4, hc⟩
            · exact .inl h
            · have hcg : c' ≠ id := fun e => by rw [e, hrow] at hc; injection hc with hc; injection hc with _ hc; exact absurd hc (by decide)
              exact .inr ⟨c', rfl, c3, by omega, by rw [upd_other (by omega), upd_other (by omega), upd_other (by omega)]; exact (fr c' (by omega)).trans hc⟩
          · simp
          · rw [upd_other (by omega), upd_same, List.map_append]; rfl
      · have hv00 : v = 0 := by omega
        subst hv00
        simp only [push_cast, Nat.reduceBEq, Nat.reduceAdd, Nat.reduceEqDiff, reduceCtorEq, Nat.reduceLeDiff, Nat.reduceSub, Nat.reduceMul, Nat.reduceLT, Int.reduceEq, Int.reduceLT, Int.reduceLE, Int.reduceBEq, Int.reduceBNe, Int.reduceToNat, Int.reduceNeg, Int.reduceSub, Int.reduceAdd, hv0, r1]
        exact ⟨gv, n, nv, l, false, nx, H, rfl, ⟨r0, r1, r2, rg, rn, n3, ll⟩, hg1, hT⟩
  clear hA hT
  rintro _ ⟨gv, n, nv, l, bad, nx, H, rfl, hA, hn1, hT⟩
  obtain ⟨r0, r1, r2, rg, rn, n3, ll⟩ := hA
  unfold inC at r1
  unfold zE5 at r0
  cases bad with
  | true =>
    have hd : decE b = (noE, 2) := by
      have : p0 pS b = none := by rcases hT with h | h; exact h.2; cases h.1
      unfold decE; rw [this]
    rw [hd]
    simp only [push_cast, Nat.reduceBEq, Nat.reduceAdd, Nat.reduceEqDiff, reduceCtorEq, Nat.reduceLeDiff, Nat.reduceSub, Nat.reduceMul, Nat.reduceLT, Int.reduceEq, Int.reduceLT, Int.reduceLE, Int.reduceBEq, Int.reduceBNe, Int.reduceToNat, Int.reduceNeg, Int.reduceSub, Int.reduceAdd, r0, r1]
    rfl
  | false =>
    have hP : p0 pS b = some (⟨z1, z2, z3, g, n⟩, l) := by rcases hT with h | h; cases h.1; exact h.2
    cases l with
    | cons x l =>
      have hd : decE b = (noE, 2) := by unfold decE; rw [hP]
      have hpos : ((byL (x :: l)).length : Int) > 0 := by rw [byL_len]; simp
      rw [hd]
      simp only [push_cast, Nat.reduceBEq, Nat.reduceAdd, Nat.reduceEqDiff, reduceCtorEq, Nat.reduceLeDiff, Nat.reduceSub, Nat.reduceMul, Nat.reduceLT, Int.reduceEq, Int.reduceLT, Int.reduceLE, Int.reduceBEq, Int.reduceBNe, Int.reduceToNat, Int.reduceNeg, Int.reduceSub, Int.reduceAdd, r0, r1, hpos]
      rfl
    | nil =>
      have hpos : ¬ ((byL []).length : Int) > 0 := by rw [byL_len]; simp
      have v0 := nilRow_view0 rg
      have v1 := nilRow_view0 rn
      have hR : Hv.ACalls Try.prog 59 ([AV.agg [.lit (.int .i64 z1), .lit (.int .i64 z2), .lit (.int .i64 z3), gv, nv]].map (AV.view H)) (.lit (.bool (rightB ⟨z1, z2, z3, g, n⟩))) := by
        show Hv.ACalls _ _ [.agg [.lit (.int .i64 z1), .lit (.int .i64 z2), .lit (.int .i64 z3), AV.view1 H gv, AV.view1 H nv]] _
        rw [v0, v1]; exact edRight_h ⟨z1, z2, z3, g, n⟩
      have hc1 := nilRow_one rg
      have hd1 := nilRow_one rn
      simp only [AV.isOne, Value.oneCell'] at hc1 hd1
      cases hr : rightB ⟨z1, z2, z3, g, n⟩ with
      | false =>
        have hd : decE b = (noE, 2) := by unfold decE; rw [hP]; simp only [hr]; rfl
        rw [hd]
        simp only [push_cast, Nat.reduceBEq, Nat.reduceAdd, Nat.reduceEqDiff, reduceCtorEq, Nat.reduceLeDiff, Nat.reduceSub, Nat.reduceMul, Nat.reduceLT, Int.reduceEq, Int.reduceLT, Int.reduceLE, Int.reduceBEq, Int.reduceBNe, Int.reduceToNat, Int.reduceNeg, Int.reduceSub, Int.reduceAdd, r0, r1, r2, hpos]
        refine callK hR ?_
        simp only [push_cast, Nat.reduceBEq, Nat.reduceAdd, Nat.reduceEqDiff, reduceCtorEq, Nat.reduceLeDiff, Nat.reduceSub, Nat.reduceMul, Nat.reduceLT, Int.reduceEq, Int.reduceLT, Int.reduceLE, Int.reduceBEq, Int.reduceBNe, Int.reduceToNat, Int.reduceNeg, Int.reduceSub, Int.reduceAdd, r0, r1, r2, hr]
        rfl
      | true =>
        have hd : decE b = (⟨z1, z2, z3, g, n⟩, 0) := by unfold decE; rw [hP]; simp only [hr, if_true]
        rw [hd]
        simp only [push_cast, Nat.reduceBEq, Nat.reduceAdd, Nat.reduceEqDiff, reduceCtorEq, Nat.reduceLeDiff, Nat.reduceSub, Nat.reduceMul, Nat.reduceLT, Int.reduceEq, Int.reduceLT, Int.reduceLE, Int.reduceBEq, Int.reduceBNe, Int.reduceToNat, Int.reduceNeg, Int.reduceSub, Int.reduceAdd, r0, r1, r2, hpos]
        refine callK hR ?_
        have v2 := nilRow_view (H' := upd H 0 (some (.cells [.lit (.int .i64 z1), .lit (.int .i64 z2), .lit (.int .i64 z3), gv, nv]))) rg (fun j hj => upd_other (by omega))
        have v3 := nilRow_view (H' := upd H 0 (some (.cells [.lit (.int .i64 z1), .lit (.int .i64 z2), .lit (.int .i64 z3), gv, nv]))) rn (fun j hj => upd_other (by omega))
        simp only [push_cast, Nat.reduceBEq, Nat.reduceAdd, Nat.reduceEqDiff, reduceCtorEq, Nat.reduceLeDiff, Nat.reduceSub, Nat.reduceMul, Nat.reduceLT, Int.reduceEq, Int.reduceLT, Int.reduceLE, Int.reduceBEq, Int.reduceBNe, Int.reduceToNat, Int.reduceNeg, Int.reduceSub, Int.reduceAdd, AV.view1] at v2 v3
        simp only [push_cast, Nat.reduceBEq, Nat.reduceAdd, Nat.reduceEqDiff, reduceCtorEq, Nat.reduceLeDiff, Nat.reduceSub, Nat.reduceMul, Nat.reduceLT, Int.reduceEq, Int.reduceLT, Int.reduceLE, Int.reduceBEq, Int.reduceBNe, Int.reduceToNat, Int.reduceNeg, Int.reduceSub, Int.reduceAdd, r0, r1, r2, hr, hc1, hd1, v2, v3]
        rfl
end Go.Proofs.Ytheanmfdfoefoaa
