/- Chapter 12's statement EpochDays, by the walk over a heap. -/
import Derived.Test.YtndojmpgadbefaaEpDaP
set_option linter.unusedVariables false
set_option linter.unusedSimpArgs false
namespace Go.Proofs.Ytndojmpgadbefaa
open Go Go.RowKit Hv
set_option maxRecDepth 20000
set_option maxHeartbeats 8000000
/-- What the law has in memory: epochs, the reference's, the notes. -/
structure DayH (H : Hp) (n : Nat) (S1 : Nat → Prop) (e p : Nat) (D : EpD) (S2 : Nat → Prop) (w m : Nat) (d : PoolD) (E : List EraE) (P : List Int) (X : List NoteD) (gx : Nat) (Y : List NoteD) : Prop where
  h1 : Ep H n S1 e p D
  h2 : RE H n S2 w m d E P X
  dj : ∀ j, S1 j → ¬ S2 j
  rx : H gx = some (.row false 51 (Y.map noteI))
  nx : gx < n
  s1 : ¬ S1 gx
  s2 : ¬ S2 gx
section
variable {H H' : Hp} {n n' e p w m gx : Nat} {S1 S2 S1' S2' : Nat → Prop} {D D' : EpD} {d d' : PoolD} {E E' : List EraE} {P P' : List Int} {X X' Y : List NoteD}
theorem RE.lt (h : RE H n S2 w m d E P X) : ∀ j, S2 j → j < n := by
  obtain ⟨N, h⟩ := h
  exact h.lt
theorem RE.frame (h : RE H n S2 w m d E P X) (hn : n ≤ n') (hh : ∀ j, S2 j → H' j = H j) : RE H' n' S2 w m d E P X := by
  obtain ⟨N, h⟩ := h
  exact ⟨N, h.frame hn hh⟩
theorem DayH.p1 (h : DayH H n S1 e p D S2 w m d E P X gx Y) (h' : Ep H' n' S1' e p D') (hn : n ≤ n') (k : ∀ j, j < n → ¬ S1 j → H' j = H j ∧ ¬ S1' j) : DayH H' n' S1' e p D' S2 w m d E P X gx Y :=
  ⟨h', h.h2.frame hn fun j hj => (k j (h.h2.lt j hj) fun q => h.dj j q hj).1, fun j hj q => (k j (h.h2.lt j q) fun r => h.dj j r q).2 hj, (k gx h.nx h.s1).1.trans h.rx, Nat.lt_of_lt_of_le h.nx hn, (k gx h.nx h.s1).2, h.s2⟩
theorem DayH.p2 (h : DayH H n S1 e p D S2 w m d E P X gx Y) (h' : RE H' n' S2' w m d' E' P' X') (hn : n ≤ n') (k : ∀ j, j < n → ¬ S2 j → H' j = H j ∧ ¬ S2' j) : DayH H' n' S1 e p D S2' w m d' E' P' X' gx Y :=
  ⟨h.h1.frame hn fun j hj => (k j (h.h1.lt j hj) (h.dj j hj)).1, h', fun j hj => (k j (h.h1.lt j hj) (h.dj j hj)).2, (k gx h.nx h.s2).1.trans h.rx, Nat.lt_of_lt_of_le h.nx hn, h.s1, (k gx h.nx h.s2).2⟩
theorem DayH.same (h : DayH H n S1 e p D S2 w m d E P X gx Y) (hn : n ≤ n') (k : ∀ j, j < n → H' j = H j) : DayH H' n' S1 e p D S2 w m d E P X gx Y :=
  h.p1 (h.h1.frame hn fun j hj => k j (h.h1.lt j hj)) hn fun j hj hs => ⟨k j hj, hs⟩
theorem DayH.u (h : DayH H n S1 e p D S2 w m d E P X gx Y) {g : Nat} {o : Option AO} (a : ¬ S1 g) (b : ¬ S2 g) (c : g ≠ gx) : DayH (upd H g o) n S1 e p D S2 w m d E P X gx Y :=
  ⟨h.h1.frame (Nat.le_refl _) fun j hj => upd_other fun q => a (q ▸ hj), h.h2.frame (Nat.le_refl _) fun j hj => upd_other fun q => b (q ▸ hj), h.dj, (upd_other c).trans h.rx, h.nx, h.s1, h.s2⟩
theorem DayH.more (h : DayH H n S1 e p D S2 w m d E P X gx Y) {x2 : Nat} {Y2 : List NoteD} (hn : n ≤ n') (hx : H' x2 = some (.row false 51 (Y2.map noteI))) (hxn : x2 < n') (hxn2 : n ≤ x2) (k : ∀ j, j < n → j ≠ gx → H' j = H j) : DayH H' n' S1 e p D S2 w m d E P X x2 Y2 :=
  ⟨h.h1.frame hn fun j hj => k j (h.h1.lt j hj) fun q => h.s1 (q ▸ hj), h.h2.frame hn fun j hj => k j (h.h2.lt j hj) fun q => h.s2 (q ▸ hj), h.dj, hx, hxn, fun q => by have := h.h1.lt _ q; omega, fun q => by have := h.h2.lt _ q; omega⟩
end
/-- What becomes of a note that is to be loaded. -/
theorem DayP.load {i : Nat} {D : EpD} {E : List EraE} {P : List Int} {X : List NoteD} (h : DayP i D E P X) {a b c o m : Int} (hn : X = [] ∨ ∃ y : NoteD, a = (y.ep : Int) ∧ b = (y.reg : Int) ∧ c = (y.gen : Int) ∧ o = (y.off : Int) ∧ m = (y.len : Int)) :
    ((a < D.lo ∨ (D.now : Int) < a) ∧ (a < 1 ∨ (E.length : Int) < a ∨ ∃ (i : Nat) (e : EraE), a = ((i + 1 : Nat) : Int) ∧ E[i]? = some e ∧ e.freed = true)) ∨
    (∃ (k : Nat) (r : EraD) (i : Nat) (e : EraE), a = ((D.lo + k : Nat) : Int) ∧ D.eras[k]? = some r ∧ mfind (.agg (int5 a b c o m)) (r.notes.map (Ent.me noteA unitA)) 0 = some none ∧ a = ((i + 1 : Nat) : Int) ∧ E[i]? = some e ∧ e.freed = false ∧ ∀ x ∈ X, ¬ ((x.ep : Int) = a ∧ (x.reg : Int) = b ∧ (x.gen : Int) = c ∧ (x.off : Int) = o ∧ (x.len : Int) = m)) ∨
    ∃ (y : NoteD) (t : List UInt8) (i : Nat) (e : EraE), (a = (y.ep : Int) ∧ b = (y.reg : Int) ∧ c = (y.gen : Int) ∧ o = (y.off : Int) ∧ m = (y.len : Int)) ∧ y ∈ X ∧ KeptN D y t ∧ y.ep = i + 1 ∧ E[i]? = some e ∧ e.freed = false := by
  have hcnt := h.w.ok.cnt
  have hlo := h.w.ok.pos.1
  have hEl := h.r.len
  by_cases h1 : a < D.lo
  · refine .inl ⟨.inl h1, ?_⟩
    by_cases h2 : a < 1
    · exact .inl h2
    · obtain ⟨i, hi⟩ : ∃ i : Nat, a = ((i + 1 : Nat) : Int) := ⟨(a - 1).toNat, by omega⟩
      obtain ⟨e, he⟩ : ∃ e, E[i]? = some e := ⟨_, List.getElem?_eq_getElem (by omega)⟩
      exact .inr (.inr ⟨i, e, hi, he, h.r.old i e he (by omega)⟩)
  · by_cases h2 : (D.now : Int) < a
    · exact .inl ⟨.inr h2, .inr (.inl (by omega))⟩
    · obtain ⟨k, hk⟩ : ∃ k : Nat, a = ((D.lo + k : Nat) : Int) := ⟨(a - D.lo).toNat, by omega⟩
      obtain ⟨r, hr⟩ : ∃ r, D.eras[k]? = some r := ⟨_, List.getElem?_eq_getElem (by omega)⟩
      obtain ⟨i, hi⟩ : ∃ i : Nat, a = ((i + 1 : Nat) : Int) := ⟨(a - 1).toNat, by omega⟩
      obtain ⟨e, he⟩ : ∃ e, E[i]? = some e := ⟨_, List.getElem?_eq_getElem (by omega)⟩
      have hf := (h.r.live i k e he (by omega)).1
      rcases hn with hX | ⟨y, y1, y2, y3, y4, y5⟩
      · subst hX
        have hnil : r.notes = [] := by
          cases hq : r.notes with
          | nil => rfl
          | cons x xs =>
            have : lookE r.notes x.key = some () := by rw [hq]; unfold lookE; simp
            exact absurd (h.r.notes k r x.key hr this).1 List.not_mem_nil
        exact .inr (.inl ⟨k, r, i, e, hk, hr, by rw [hnil]; rfl, hi, he, hf, fun x hx => absurd hx List.not_mem_nil⟩)
      · cases hlk : lookE r.notes y with
        | none =>
          refine .inr (.inl ⟨k, r, i, e, hk, hr, ?_, hi, he, hf, fun x hx hq => ?_⟩)
          · have := mfind_no (vA := unitA) keyOk_note hlk
            rw [y1, y2, y3, y4, y5]
            exact this
          · have hxy : x = y := by
              obtain ⟨q1, q2, q3, q4, q5⟩ := hq
              obtain ⟨x1, x2, x3, x4, x5⟩ := x
              obtain ⟨z1, z2, z3, z4, z5⟩ := y
              dsimp only at *
              rw [NoteD.mk.injEq]
              omega
            subst hxy
            obtain ⟨r', hr', hl'⟩ := h.r.had x hx k (by omega)
            rw [hr] at hr'
            injection hr' with hr'
            subst hr'
            rw [hlk] at hl'; cases hl'
        | some u =>
          obtain ⟨q1, q2⟩ := h.r.notes k r y hr hlk
          obtain ⟨t, ht⟩ := h.kept y q1 (by omega)
          exact .inr (.inr ⟨y, t, i, e, ⟨y1, y2, y3, y4, y5⟩, q1, ht, by omega, he, hf⟩)
theorem EpH.goneI {H : Hp} {n e : Nat} {S : Nat → Prop} {N : EpN} {D : EpD} (h : EpH H n S e N D) {a : Int} (ha : a < D.lo ∨ (D.now : Int) < a) : lookE N.es a = none := lookE_none.2 fun y hy hk => by
  obtain ⟨i, hi⟩ := List.mem_iff_getElem?.1 hy
  obtain ⟨x, hx, h1, h2⟩ := h.es i y hi
  have := (List.getElem?_eq_some_iff.1 hi).1
  have h3 := h.esl.1
  have h4 := h.ok.cnt
  omega
theorem ints_h {H : Hp} {n g g' : Nat} {l : List Int} {m1 m2 : Bool} (hl : l.length ≤ 100000) (hg : H g = some (.row m1 3 (l.map intI))) (hg' : H g' = some (.row m2 3 (l.map intI))) :
    HCalls Try.prog 36 [.rw g 1 0 l.length, .rw g' 1 0 l.length] H n fun r H' n' => r = .lit (.bool true) ∧ H' = H ∧ n' = n := by
  refine hcallsC_of (rs := [.tmp 4]) ⟨[0, 1, 4, 5, 10, 14, 25], [], [], [(6, [(0, [], []), (1, [], []), (2, [], []), (3, [], []), (4, [], []), (5, [], []), (6, [], []), (7, [], []), (8, [], [])])], []⟩ TOk mixed Try.func36 rfl rfl (by kernel_rfl) (by kernel_rfl) rfl ?_
  simp only [push_cast, Nat.reduceBEq, Nat.reduceAdd, Nat.reduceEqDiff, reduceCtorEq, Nat.reduceLeDiff, Nat.reduceSub, Nat.reduceMul, Nat.reduceLT, Int.reduceEq, Int.reduceLT, Int.reduceLE, Int.reduceBEq, Int.reduceBNe, Int.reduceToNat, Int.reduceNeg, Int.reduceSub, Int.reduceAdd]
  refine loopK (fun q s => ∃ k : Nat, s = ⟨[(0, .rw g 1 0 l.length), (1, .rw g' 1 0 l.length), (5, .lit (.int .i64 (k : Int)))], H, n⟩ ∧ k ≤ l.length ∧ q = l.length - k) _ [0, 1, 5] ⟨0, rfl, Nat.zero_le _, rfl⟩ ?_
  rintro q _ ⟨k, rfl, hk, rfl⟩
  have hwk := wrap_nat0 (k := k) (by omega)
  by_cases hkl : k < l.length
  · have hkl' : (k : Int) < (l.length : Int) := by omega
    obtain ⟨z, hz⟩ : ∃ z, l[k]? = some z := ⟨_, List.getElem?_eq_getElem hkl⟩
    have hzi : (l.map intI)[k]? = some [.lit (.int .i64 z)] := by rw [List.getElem?_map, hz]; rfl
    cases m1 <;> cases m2
    all_goals
      simp only [push_cast, Nat.reduceBEq, Nat.reduceAdd, Nat.reduceEqDiff, reduceCtorEq, Nat.reduceLeDiff, Nat.reduceSub, Nat.reduceMul, Nat.reduceLT, Int.reduceEq, Int.reduceLT, Int.reduceLE, Int.reduceBEq, Int.reduceBNe, Int.reduceToNat, Int.reduceNeg, Int.reduceSub, Int.reduceAdd, hkl, hkl', hg, hg', hzi, hwk]
      exact ⟨_, by omega, k + 1, rfl, hkl, rfl⟩
  · have hkl' : ¬ (k : Int) < (l.length : Int) := by omega
    simp only [push_cast, Nat.reduceBEq, Nat.reduceAdd, Nat.reduceEqDiff, reduceCtorEq, Nat.reduceLeDiff, Nat.reduceSub, Nat.reduceMul, Nat.reduceLT, Int.reduceEq, Int.reduceLT, Int.reduceLE, Int.reduceBEq, Int.reduceBNe, Int.reduceToNat, Int.reduceNeg, Int.reduceSub, Int.reduceAdd, hkl, hkl']
theorem EpochDays_h (slabs : Int) (row : List DayD) (hrow : ∀ o ∈ row, o.data.size ≤ 140737488355328) : Hv.ACalls Try.prog 3 [.lit (.int .i64 slabs), .sl (row.map dayI)] (.lit (.bool true)) := by
  refine acallsC_of (rs := [.tmp 4]) ⟨[0, 1, 4, 6, 7, 8, 9, 10, 11, 12, 13, 14, 15, 16, 17, 18, 19, 20, 21, 22, 23, 24, 25, 26, 27, 28, 29, 30, 31, 32, 33, 34, 35, 36, 37, 38, 39, 40, 77, 109, 117, 125, 126, 145, 146, 156, 157, 171, 192, 194, 199, 225, 229, 235, 254, 255, 269, 310], [161], [], [(23, [(0, [], []), (1, [], []), (2, [], []), (4, [], []), (5, [], []), (6, [], []), (3, [6], [0, 2, 1]), (7, [], [4, 6, 3, 5, 0, 2, 1]), (8, [], [])]), (33, [(0, [], []), (2, [], []), (1, [2], [0]), (3, [], []), (4, [], []), (5, [], []), (6, [], []), (7, [], []), (8, [], [])])], [17, 28, 32, 39, 43, 56]⟩ TOk mixed Try.func3 rfl rfl (by kernel_rfl) (by kernel_rfl) rfl (List.forall_mem_cons.2 ⟨by simp [noId_lit], by simp [noId_days]⟩) (.lit _) ?_
  simp only [push_cast, Nat.reduceBEq, Nat.reduceAdd, Nat.reduceEqDiff, reduceCtorEq, Nat.reduceLeDiff, Nat.reduceSub, Nat.reduceMul, Nat.reduceLT, Int.reduceEq, Int.reduceLT, Int.reduceLE, Int.reduceBEq, Int.reduceBNe, Int.reduceToNat, Int.reduceNeg, Int.reduceSub, Int.reduceAdd]
  refine callH nil_new ?_
  rintro r H0 n0 ⟨hr, hH, hn⟩
  rw [hr, hH, hn]
  simp only [push_cast, Nat.reduceBEq, Nat.reduceAdd, Nat.reduceEqDiff, reduceCtorEq, Nat.reduceLeDiff, Nat.reduceSub, Nat.reduceMul, Nat.reduceLT, Int.reduceEq, Int.reduceLT, Int.reduceLE, Int.reduceBEq, Int.reduceBNe, Int.reduceToNat, Int.reduceNeg, Int.reduceSub, Int.reduceAdd]
  refine callH ages_h ?_
  rintro _ H0 n0 ⟨rfl, hn0, _⟩
  simp only [push_cast, Nat.reduceBEq, Nat.reduceAdd, Nat.reduceEqDiff, reduceCtorEq, Nat.reduceLeDiff, Nat.reduceSub, Nat.reduceMul, Nat.reduceLT, Int.reduceEq, Int.reduceLT, Int.reduceLE, Int.reduceBEq, Int.reduceBNe, Int.reduceToNat, Int.reduceNeg, Int.reduceSub, Int.reduceAdd]
  refine callH never_h ?_
  rintro r H1 n1 ⟨hr, hH, hn⟩
  rw [hr, hH, hn]
  simp only [push_cast, Nat.reduceBEq, Nat.reduceAdd, Nat.reduceEqDiff, reduceCtorEq, Nat.reduceLeDiff, Nat.reduceSub, Nat.reduceMul, Nat.reduceLT, Int.reduceEq, Int.reduceLT, Int.reduceLE, Int.reduceBEq, Int.reduceBNe, Int.reduceToNat, Int.reduceNeg, Int.reduceSub, Int.reduceAdd]
  refine callH nil_now ?_
  rintro r H1 n1 ⟨hr, hH, hn⟩
  rw [hr, hH, hn]
  simp only [push_cast, Nat.reduceBEq, Nat.reduceAdd, Nat.reduceEqDiff, reduceCtorEq, Nat.reduceLeDiff, Nat.reduceSub, Nat.reduceMul, Nat.reduceLT, Int.reduceEq, Int.reduceLT, Int.reduceLE, Int.reduceBEq, Int.reduceBNe, Int.reduceToNat, Int.reduceNeg, Int.reduceSub, Int.reduceAdd]
  refine callH never_h ?_
  rintro r H1 n1 ⟨hr, hH, hn⟩
  rw [hr, hH, hn]
  simp only [push_cast, Nat.reduceBEq, Nat.reduceAdd, Nat.reduceEqDiff, reduceCtorEq, Nat.reduceLeDiff, Nat.reduceSub, Nat.reduceMul, Nat.reduceLT, Int.reduceEq, Int.reduceLT, Int.reduceLE, Int.reduceBEq, Int.reduceBNe, Int.reduceToNat, Int.reduceNeg, Int.reduceSub, Int.reduceAdd]
  refine callH nil_oldest ?_
  rintro r H1 n1 ⟨hr, hH, hn⟩
  rw [hr, hH, hn]
  simp only [push_cast, Nat.reduceBEq, Nat.reduceAdd, Nat.reduceEqDiff, reduceCtorEq, Nat.reduceLeDiff, Nat.reduceSub, Nat.reduceMul, Nat.reduceLT, Int.reduceEq, Int.reduceLT, Int.reduceLE, Int.reduceBEq, Int.reduceBNe, Int.reduceToNat, Int.reduceNeg, Int.reduceSub, Int.reduceAdd]
  refine callH never_h ?_
  rintro r H1 n1 ⟨hr, hH, hn⟩
  rw [hr, hH, hn]
  simp only [push_cast, Nat.reduceBEq, Nat.reduceAdd, Nat.reduceEqDiff, reduceCtorEq, Nat.reduceLeDiff, Nat.reduceSub, Nat.reduceMul, Nat.reduceLT, Int.reduceEq, Int.reduceLT, Int.reduceLE, Int.reduceBEq, Int.reduceBNe, Int.reduceToNat, Int.reduceNeg, Int.reduceSub, Int.reduceAdd]
  refine callH nil_kept ?_
  rintro r H1 n1 ⟨hr, hH, hn⟩
  rw [hr, hH, hn]
  simp only [push_cast, Nat.reduceBEq, Nat.reduceAdd, Nat.reduceEqDiff, reduceCtorEq, Nat.reduceLeDiff, Nat.reduceSub, Nat.reduceMul, Nat.reduceLT, Int.reduceEq, Int.reduceLT, Int.reduceLE, Int.reduceBEq, Int.reduceBNe, Int.reduceToNat, Int.reduceNeg, Int.reduceSub, Int.reduceAdd]
  refine callH never_h ?_
  rintro r H1 n1 ⟨hr, hH, hn⟩
  rw [hr, hH, hn]
  simp only [push_cast, Nat.reduceBEq, Nat.reduceAdd, Nat.reduceEqDiff, reduceCtorEq, Nat.reduceLeDiff, Nat.reduceSub, Nat.reduceMul, Nat.reduceLT, Int.reduceEq, Int.reduceLT, Int.reduceLE, Int.reduceBEq, Int.reduceBNe, Int.reduceToNat, Int.reduceNeg, Int.reduceSub, Int.reduceAdd]
  refine callH nil_live ?_
  rintro _ H1 n1 ⟨⟨gl, rfl⟩, hn1, k1⟩
  simp only [push_cast, Nat.reduceBEq, Nat.reduceAdd, Nat.reduceEqDiff, reduceCtorEq, Nat.reduceLeDiff, Nat.reduceSub, Nat.reduceMul, Nat.reduceLT, Int.reduceEq, Int.reduceLT, Int.reduceLE, Int.reduceBEq, Int.reduceBNe, Int.reduceToNat, Int.reduceNeg, Int.reduceSub, Int.reduceAdd]
  refine callH never_h ?_
  rintro r H2 n2 ⟨hr, hH, hn⟩
  rw [hr, hH, hn]
  simp only [push_cast, Nat.reduceBEq, Nat.reduceAdd, Nat.reduceEqDiff, reduceCtorEq, Nat.reduceLeDiff, Nat.reduceSub, Nat.reduceMul, Nat.reduceLT, Int.reduceEq, Int.reduceLT, Int.reduceLE, Int.reduceBEq, Int.reduceBNe, Int.reduceToNat, Int.reduceNeg, Int.reduceSub, Int.reduceAdd]
  refine callH nil_unpin ?_
  rintro r H2 n2 ⟨hr, hH, hn⟩
  rw [hr, hH, hn]
  obtain ⟨m, hm, hm1, hm2⟩ := u64_mod slabs (K := 9) (by decide) (by decide)
  simp only [show ((9 : Nat) : Int) = 9 from rfl] at hm1
  obtain ⟨K, hK⟩ : ∃ K, 1 + m = K := ⟨_, rfl⟩
  have hw1 : IntKind.i64.wrap (1 + (m : Int)) = (K : Int) := by rw [show (1 : Int) + (m : Int) = (K : Int) by omega]; exact IntWalk.i64_in _ (by omega)
  simp only [push_cast, Nat.reduceBEq, Nat.reduceAdd, Nat.reduceEqDiff, reduceCtorEq, Nat.reduceLeDiff, Nat.reduceSub, Nat.reduceMul, Nat.reduceLT, Int.reduceEq, Int.reduceLT, Int.reduceLE, Int.reduceBEq, Int.reduceBNe, Int.reduceToNat, Int.reduceNeg, Int.reduceSub, Int.reduceAdd, hm1, hm2, hw1]
  refine callH (newPool_c (size := 64) (K := K) (by decide) (by decide) (by omega) (by omega)) ?_
  rintro _ H2 n2 ⟨p, S1, rfl, hp1, hn2, hS1, k2⟩
  have hn2 : n1 ≤ n2 := hn2
  simp only [push_cast, Nat.reduceBEq, Nat.reduceAdd, Nat.reduceEqDiff, reduceCtorEq, Nat.reduceLeDiff, Nat.reduceSub, Nat.reduceMul, Nat.reduceLT, Int.reduceEq, Int.reduceLT, Int.reduceLE, Int.reduceBEq, Int.reduceBNe, Int.reduceToNat, Int.reduceNeg, Int.reduceSub, Int.reduceAdd]
  refine callH (rnew_c (size := 64) (K := K) (by decide) (by decide) (by omega) (by omega)) ?_
  rintro _ H3 n3 ⟨mm, S2, rfl, hp2, hn3, hS2, k3⟩
  have hn3 : n2 ≤ n3 := hn3
  have k3 : ∀ j, j < n2 → H3 j = H2 j := k3
  have hS2 : ∀ j, S2 j → n2 ≤ j := hS2
  have hp13 := hp1.frame (H' := H3) (n' := n3) hn3 fun j hj => k3 j (hp1.lt j hj)
  simp only [push_cast, Nat.reduceBEq, Nat.reduceAdd, Nat.reduceEqDiff, reduceCtorEq, Nat.reduceLeDiff, Nat.reduceSub, Nat.reduceMul, Nat.reduceLT, Int.reduceEq, Int.reduceLT, Int.reduceLE, Int.reduceBEq, Int.reduceBNe, Int.reduceToNat, Int.reduceNeg, Int.reduceSub, Int.reduceAdd]
  refine callH (newEp_c hp13 (l := landZ) rfl rfl (by decide)) ?_
  rintro _ H4 n4 ⟨e, S3, rfl, ⟨N4, h4, hN4⟩, hn4, k4⟩
  have hn4 : n3 ≤ n4 := hn4
  have k4 : ∀ j, j < n3 → ¬ S1 j → H4 j = H3 j ∧ ¬ S3 j := k4
  have hS12 : ∀ j, S2 j → ¬ S1 j := fun j hj q => by have := hS2 j hj; have := hp1.lt j q; omega
  have hp24 := hp2.frame (H' := H4) (n' := n4) hn4 fun j hj => (k4 j (hp2.lt j hj) (hS12 j hj)).1
  simp only [push_cast, Nat.reduceBEq, Nat.reduceAdd, Nat.reduceEqDiff, reduceCtorEq, Nat.reduceLeDiff, Nat.reduceSub, Nat.reduceMul, Nat.reduceLT, Int.reduceEq, Int.reduceLT, Int.reduceLE, Int.reduceBEq, Int.reduceBNe, Int.reduceToNat, Int.reduceNeg, Int.reduceSub, Int.reduceAdd]
  refine callH (rnewE_c hp24 (i := 0) (l := landZ) rfl rfl (fun j l hj => absurd hj (Nat.not_lt_zero _)) (by decide)) ?_
  rintro _ H5 n5 ⟨w, S4, rfl, hE5, hn5, k5⟩
  have hn5 : n4 ≤ n5 := hn5
  have k5 : ∀ j, j < n4 → ¬ S2 j → H5 j = H4 j ∧ ¬ S4 j := k5
  have hS23 : ∀ j, S3 j → ¬ S2 j := fun j hj q => (k4 j (hp2.lt j q) (hS12 j q)).2 hj
  obtain ⟨D0, hD0⟩ : ∃ D, D = (epZ (poolZ 64 K)).adv 0 landZ := ⟨_, rfl⟩
  have hd0 : (poolZ 64 K).made 0 landZ = D0.pool := by rw [hD0]; rfl
  rw [hd0] at hE5
  rw [← hD0] at h4
  have hI0 : DayP 0 D0 [⟨0, false, 0⟩] [] [] := by rw [hD0]; exact dayP_first (by omega)
  clear hD0
  simp only [push_cast, Nat.reduceBEq, Nat.reduceAdd, Nat.reduceEqDiff, reduceCtorEq, Nat.reduceLeDiff, Nat.reduceSub, Nat.reduceMul, Nat.reduceLT, Int.reduceEq, Int.reduceLT, Int.reduceLE, Int.reduceBEq, Int.reduceBNe, Int.reduceToNat, Int.reduceNeg, Int.reduceSub, Int.reduceAdd]
  have hM0 : DayH (upd H5 n5 (some (.row false 51 []))) (n5 + 1) S3 e p D0 S4 w mm D0.pool [⟨0, false, 0⟩] [] [] n5 [] := by
    have l3 : ∀ j, S3 j → j < n4 := h4.lt
    have l4 := hE5.lt
    refine ⟨⟨N4, h4.frame (by omega) fun j hj => ?_, hN4⟩, hE5.frame (by omega) fun j hj => upd_other (by have := l4 j hj; omega), fun j hj => (k5 j (l3 j hj) (hS23 j hj)).2, upd_same _ _ _, by omega, fun q => by have := l3 _ q; omega, fun q => by have := l4 _ q; omega⟩
    have := l3 j hj
    rw [upd_other (by omega)]
    exact (k5 j this (hS23 j hj)).1
  clear k5 k4 k3 k2 hS23 hS12 hS1 hS2 hp1 hp2 hp13 hp24 hE5 h4 hd0 hr hH hn
  refine loopK (fun q s => ∃ (i : Nat) (H4 : Hp) (n4 : Nat) (S1 S2 : Nat → Prop) (D : EpD) (E : List EraE) (P : List Int) (X : List NoteD) (gx : Nat), s = ⟨[(1, .sl (row.map dayI)), (7, .ptr p 0), (8, .ptr mm 0), (9, .ptr e 0), (11, .ptr w 0), (13, .rw gx 5 0 X.length), (14, .lit (.int .i64 (i : Int)))], H4, n4⟩ ∧ i ≤ 100 ∧ q = 100 - i ∧ DayH H4 n4 S1 e p D S2 w mm D.pool E P X gx X ∧ DayP i D E P X) _ [1, 7, 8, 9, 11, 13, 14]
    ⟨0, _, _, S3, S4, D0, _, [], [], n5, rfl, by omega, rfl, hM0, hI0⟩ ?_
  clear hM0 hI0
  rintro q _ ⟨i, H4, n4, S1, S2, D, E, P, X, gx, rfl, hi, rfl, h4, hI⟩
  by_cases hend : i < row.length ∧ i < 100
  · obtain ⟨hir, hi100⟩ := hend
    have hir' : (i : Int) < (row.length : Int) := by omega
    have hi' : (i : Int) < 100 := by omega
    obtain ⟨d, hd⟩ : ∃ d, row[i]? = some d := ⟨_, List.getElem?_eq_getElem hir⟩
    have hdz := hrow d (List.mem_of_getElem? hd)
    have hwi := wrap_nat0 (k := i) (by omega)
    simp only [push_cast, Nat.reduceBEq, Nat.reduceAdd, Nat.reduceEqDiff, reduceCtorEq, Nat.reduceLeDiff, Nat.reduceSub, Nat.reduceMul, Nat.reduceLT, Int.reduceEq, Int.reduceLT, Int.reduceLE, Int.reduceBEq, Int.reduceBNe, Int.reduceToNat, Int.reduceNeg, Int.reduceSub, Int.reduceAdd, hir, hir', hi', hd, dayI]
    refine cutK (fun s => ∃ (H5 : Hp) (n5 : Nat) (S1 S2 : Nat → Prop) (D : EpD) (E : List EraE) (P : List Int) (X : List NoteD) (gx : Nat), s = ⟨[(1, .sl (row.map dayI)), (7, .ptr p 0), (8, .ptr mm 0), (9, .ptr e 0), (11, .ptr w 0), (13, .rw gx 5 0 X.length), (14, .lit (.int .i64 (i : Int)))], H5, n5⟩ ∧ DayH H5 n5 S1 e p D S2 w mm D.pool E P X gx X ∧ DayP (i + 1) D E P X) [1, 7, 8, 9, 11, 13, 14] ?_ ?_
    · have hnowB := hI.nowB
      have hpl := hI.pl
      have hxl := hI.xl
      have hlast := hI.r.pp.last
      have hEl := hI.r.len
      have hcnt := hI.w.ok.cnt
      have hlo1 := hI.w.ok.pos.1
      simp only [push_cast, Nat.reduceBEq, Nat.reduceAdd, Nat.reduceEqDiff, reduceCtorEq, Nat.reduceLeDiff, Nat.reduceSub, Nat.reduceMul, Nat.reduceLT, Int.reduceEq, Int.reduceLT, Int.reduceLE, Int.reduceBEq, Int.reduceBNe, Int.reduceToNat, Int.reduceNeg, Int.reduceSub, Int.reduceAdd, hir, hir', hi', hd, dayI]
      refine cutK (fun s => ∃ (H5 : Hp), s = ⟨[(1, .sl (row.map dayI)), (7, .ptr p 0), (8, .ptr mm 0), (9, .ptr e 0), (11, .ptr w 0), (13, .rw gx 5 0 X.length), (14, .lit (.int .i64 (i : Int))), (15, .ptr n4 0), (125, .lit (.int .i64 d.call))], H5, n4 + 1⟩ ∧ H5 n4 = some (.cells [.lit (.int .i64 d.call), .lit (.int .i64 d.n), .lit (.int .i64 d.by'), .lit (.string d.data)]) ∧ DayH H5 (n4 + 1) S1 e p D S2 w mm D.pool E P X gx X) [1, 7, 8, 9, 11, 13, 14, 15, 125] ?_ ?_
      · simp only [push_cast, Nat.reduceBEq, Nat.reduceAdd, Nat.reduceEqDiff, reduceCtorEq, Nat.reduceLeDiff, Nat.reduceSub, Nat.reduceMul, Nat.reduceLT, Int.reduceEq, Int.reduceLT, Int.reduceLE, Int.reduceBEq, Int.reduceBNe, Int.reduceToNat, Int.reduceNeg, Int.reduceSub, Int.reduceAdd, hir, hir', hi', hd, dayI]
        exact ⟨_, rfl, upd_same _ _ _, h4.same (by omega) fun j hj => by rw [upd_other (by omega), upd_other (by omega)]⟩
      have hn4S1 : ¬ S1 n4 := fun q => by have := h4.h1.lt _ q; omega
      have hn4S2 : ¬ S2 n4 := fun q => by have := h4.h2.lt _ q; omega
      have hgxn := h4.nx
      clear h4
      rintro _ ⟨H4, rfl, hD4, h4⟩
      obtain ⟨N1, e1, hN1⟩ := h4.h1
      obtain ⟨N2, e2⟩ := h4.h2
      have kn := e1.pnOk.keys
-- CALLS
      by_cases hc1 : d.call = 1
      · have hfew := hI.w.ok.pinsFew kn
        have zl : (D.last : Int) = (P.length : Int) := by omega
        simp only [push_cast, Nat.reduceBEq, Nat.reduceAdd, Nat.reduceEqDiff, reduceCtorEq, Nat.reduceLeDiff, Nat.reduceSub, Nat.reduceMul, Nat.reduceLT, Int.reduceEq, Int.reduceLT, Int.reduceLE, Int.reduceBEq, Int.reduceBNe, Int.reduceToNat, Int.reduceNeg, Int.reduceSub, Int.reduceAdd, hc1]
        refine callH (pin_c e1 hI.now1 (by omega) (by omega)) ?_
        rintro _ H6 n6 ⟨rfl, S6, ⟨N6, h6, hN6⟩, hn6, k6⟩
        have hn6 : n4 + 1 ≤ n6 := hn6
        have d6 := h4.p1 ⟨N6, h6, hN6.trans hN1⟩ hn6 k6
        obtain ⟨N7, e7⟩ := d6.h2
        simp only [push_cast, Nat.reduceBEq, Nat.reduceAdd, Nat.reduceEqDiff, reduceCtorEq, Nat.reduceLeDiff, Nat.reduceSub, Nat.reduceMul, Nat.reduceLT, Int.reduceEq, Int.reduceLT, Int.reduceLE, Int.reduceBEq, Int.reduceBNe, Int.reduceToNat, Int.reduceNeg, Int.reduceSub, Int.reduceAdd]
        refine callH (rpin_c e7 (by omega) (by omega)) ?_
        rintro _ H8 n8 ⟨rfl, S8, h8, hn8, k8⟩
        have hn8 : n6 ≤ n8 := hn8
        have d8 := d6.p2 h8 hn8 k8
        simp only [push_cast, Nat.reduceBEq, Nat.reduceAdd, Nat.reduceEqDiff, reduceCtorEq, Nat.reduceLeDiff, Nat.reduceSub, Nat.reduceMul, Nat.reduceLT, Int.reduceEq, Int.reduceLT, Int.reduceLE, Int.reduceBEq, Int.reduceBNe, Int.reduceToNat, Int.reduceNeg, Int.reduceSub, Int.reduceAdd, zl]
        rw [hEl] at d8
        exact ⟨_, _, S6, S8, _, E, _, X, gx, rfl, d8, hI.pin h6.ok⟩
      have hcb1 : (d.call == 1) = false := beq_eq_false_iff_ne.2 hc1
      by_cases hc2 : d.call = 2
      · have hPl : P.length ≤ 100000 := by omega
        rcases hI.r.pp.look kn d.n with ⟨hlk, hz⟩ | ⟨k, v, hz, hk, hv0, hlk⟩
        · simp only [push_cast, Nat.reduceBEq, Nat.reduceAdd, Nat.reduceEqDiff, reduceCtorEq, Nat.reduceLeDiff, Nat.reduceSub, Nat.reduceMul, Nat.reduceLT, Int.reduceEq, Int.reduceLT, Int.reduceLE, Int.reduceBEq, Int.reduceBNe, Int.reduceToNat, Int.reduceNeg, Int.reduceSub, Int.reduceAdd, hcb1, hc2, hD4]
          refine callHD (unpin_no e1 hlk) ?_
          rintro _ H6 n6 ⟨rfl, hn6, k6⟩
          have hn6 : n4 + 1 ≤ n6 := hn6
          have d6 := h4.same (n' := n6) hn6 k6
          have hD6 := (k6 n4 (show n4 < n4 + 1 by omega)).trans hD4
          obtain ⟨N7, e7⟩ := d6.h2
          rw [Hv.contD_at]
          refine ⟨by simp only [push_cast, Nat.reduceBEq, Nat.reduceAdd, Nat.reduceEqDiff, reduceCtorEq, Nat.reduceLeDiff, Nat.reduceSub, Nat.reduceMul, Nat.reduceLT, Int.reduceEq, Int.reduceLT, Int.reduceLE, Int.reduceBEq, Int.reduceBNe, Int.reduceToNat, Int.reduceNeg, Int.reduceSub, Int.reduceAdd, hD6], ?_⟩
          simp only [push_cast, Nat.reduceBEq, Nat.reduceAdd, Nat.reduceEqDiff, reduceCtorEq, Nat.reduceLeDiff, Nat.reduceSub, Nat.reduceMul, Nat.reduceLT, Int.reduceEq, Int.reduceLT, Int.reduceLE, Int.reduceBEq, Int.reduceBNe, Int.reduceToNat, Int.reduceNeg, Int.reduceSub, Int.reduceAdd, hD6]
          refine callHD (runpin_no e7 hPl hz) ?_
          rintro r H8 n8 ⟨hr, hH, hn⟩
          rw [hr, hH, hn, Hv.contD_at]
          refine ⟨by simp only [push_cast, Nat.reduceBEq, Nat.reduceAdd, Nat.reduceEqDiff, reduceCtorEq, Nat.reduceLeDiff, Nat.reduceSub, Nat.reduceMul, Nat.reduceLT, Int.reduceEq, Int.reduceLT, Int.reduceLE, Int.reduceBEq, Int.reduceBNe, Int.reduceToNat, Int.reduceNeg, Int.reduceSub, Int.reduceAdd], ?_⟩
          simp only [push_cast, Nat.reduceBEq, Nat.reduceAdd, Nat.reduceEqDiff, reduceCtorEq, Nat.reduceLeDiff, Nat.reduceSub, Nat.reduceMul, Nat.reduceLT, Int.reduceEq, Int.reduceLT, Int.reduceLE, Int.reduceBEq, Int.reduceBNe, Int.reduceToNat, Int.reduceNeg, Int.reduceSub, Int.reduceAdd]
          exact ⟨_, _, S1, S2, D, E, P, X, gx, rfl, d6, hI.up⟩
        · have hkl := (List.getElem?_eq_some_iff.1 hk).1
          rw [← hz] at hlk
          simp only [push_cast, Nat.reduceBEq, Nat.reduceAdd, Nat.reduceEqDiff, reduceCtorEq, Nat.reduceLeDiff, Nat.reduceSub, Nat.reduceMul, Nat.reduceLT, Int.reduceEq, Int.reduceLT, Int.reduceLE, Int.reduceBEq, Int.reduceBNe, Int.reduceToNat, Int.reduceNeg, Int.reduceSub, Int.reduceAdd, hcb1, hc2, hD4]
          refine callHD (unpin_c e1 hlk) ?_
          rintro _ H6 n6 ⟨rfl, S6, ⟨N6, h6, hN6⟩, hn6, k6⟩
          have hn6 : n4 + 1 ≤ n6 := hn6
          have d6 := h4.p1 ⟨N6, h6, hN6.trans hN1⟩ hn6 k6
          have hD6 := (k6 n4 (show n4 < n4 + 1 by omega) hn4S1).1.trans hD4
          obtain ⟨N7, e7⟩ := d6.h2
          rw [Hv.contD_at]
          refine ⟨by simp only [push_cast, Nat.reduceBEq, Nat.reduceAdd, Nat.reduceEqDiff, reduceCtorEq, Nat.reduceLeDiff, Nat.reduceSub, Nat.reduceMul, Nat.reduceLT, Int.reduceEq, Int.reduceLT, Int.reduceLE, Int.reduceBEq, Int.reduceBNe, Int.reduceToNat, Int.reduceNeg, Int.reduceSub, Int.reduceAdd, hD6], ?_⟩
          simp only [push_cast, Nat.reduceBEq, Nat.reduceAdd, Nat.reduceEqDiff, reduceCtorEq, Nat.reduceLeDiff, Nat.reduceSub, Nat.reduceMul, Nat.reduceLT, Int.reduceEq, Int.reduceLT, Int.reduceLE, Int.reduceBEq, Int.reduceBNe, Int.reduceToNat, Int.reduceNeg, Int.reduceSub, Int.reduceAdd, hD6]
          have hu := runpin_c e7 hPl hk hv0
          rw [← hz] at hu
          refine callHD hu ?_
          rintro _ H8 n8 ⟨rfl, S8, h8, hn8, k8⟩
          have hn8 : n6 ≤ n8 := hn8
          have d8 := d6.p2 h8 hn8 k8
          rw [Hv.contD_at]
          refine ⟨by simp only [push_cast, Nat.reduceBEq, Nat.reduceAdd, Nat.reduceEqDiff, reduceCtorEq, Nat.reduceLeDiff, Nat.reduceSub, Nat.reduceMul, Nat.reduceLT, Int.reduceEq, Int.reduceLT, Int.reduceLE, Int.reduceBEq, Int.reduceBNe, Int.reduceToNat, Int.reduceNeg, Int.reduceSub, Int.reduceAdd], ?_⟩
          simp only [push_cast, Nat.reduceBEq, Nat.reduceAdd, Nat.reduceEqDiff, reduceCtorEq, Nat.reduceLeDiff, Nat.reduceSub, Nat.reduceMul, Nat.reduceLT, Int.reduceEq, Int.reduceLT, Int.reduceLE, Int.reduceBEq, Int.reduceBNe, Int.reduceToNat, Int.reduceNeg, Int.reduceSub, Int.reduceAdd]
          have hI8 := hI.unpin kn hkl (by rw [← hz]; exact h6.ok)
          rw [← hz] at hI8
          exact ⟨_, _, S6, S8, _, E, _, X, gx, rfl, d8, hI8⟩
      have hcb2 : (d.call == 2) = false := beq_eq_false_iff_ne.2 hc2
      have hll : D.pool.lands.length = 256 := hI.w.pk.ll
      by_cases hc5 : d.call = 5
      · obtain ⟨fi, fl, hf1, hf2, hf3, hf4⟩ := hI.w.x.free hll (by omega)
        have zl : (D.now : Int) = (E.length : Int) := by omega
        simp only [push_cast, Nat.reduceBEq, Nat.reduceAdd, Nat.reduceEqDiff, reduceCtorEq, Nat.reduceLeDiff, Nat.reduceSub, Nat.reduceMul, Nat.reduceLT, Int.reduceEq, Int.reduceLT, Int.reduceLE, Int.reduceBEq, Int.reduceBNe, Int.reduceToNat, Int.reduceNeg, Int.reduceSub, Int.reduceAdd, hcb1, hcb2, hc5]
        refine callH (advance_c e1 hf1 hf2 hf3 (by omega) (by omega)) ?_
        rintro _ H6 n6 ⟨rfl, S6, ⟨N6, h6, hN6⟩, hn6, k6⟩
        have hn6 : n4 + 1 ≤ n6 := hn6
        have d6 := h4.p1 ⟨N6, h6, hN6.trans hN1⟩ hn6 k6
        obtain ⟨N7, e7⟩ := d6.h2
        simp only [push_cast, Nat.reduceBEq, Nat.reduceAdd, Nat.reduceEqDiff, reduceCtorEq, Nat.reduceLeDiff, Nat.reduceSub, Nat.reduceMul, Nat.reduceLT, Int.reduceEq, Int.reduceLT, Int.reduceLE, Int.reduceBEq, Int.reduceBNe, Int.reduceToNat, Int.reduceNeg, Int.reduceSub, Int.reduceAdd]
        refine callH (radv_c e7 hf1 hf2 hf3 (by omega) (by omega)) ?_
        rintro _ H8 n8 ⟨rfl, S8, h8, hn8, k8⟩
        have hn8 : n6 ≤ n8 := hn8
        have d8 := d6.p2 h8 hn8 k8
        simp only [push_cast, Nat.reduceBEq, Nat.reduceAdd, Nat.reduceEqDiff, reduceCtorEq, Nat.reduceLeDiff, Nat.reduceSub, Nat.reduceMul, Nat.reduceLT, Int.reduceEq, Int.reduceLT, Int.reduceLE, Int.reduceBEq, Int.reduceBNe, Int.reduceToNat, Int.reduceNeg, Int.reduceSub, Int.reduceAdd, zl]
        exact ⟨_, _, S6, S8, D.adv fi fl, _, P, X, gx, rfl, d8, hI.adv hf1 hf2 (by omega)⟩
      have hcb5 : (d.call == 5) = false := beq_eq_false_iff_ne.2 hc5
      by_cases hc6 : d.call = 6
      · obtain ⟨c, hcz, hcl, hz1⟩ := hI.cut
        simp only [push_cast, Nat.reduceBEq, Nat.reduceAdd, Nat.reduceEqDiff, reduceCtorEq, Nat.reduceLeDiff, Nat.reduceSub, Nat.reduceMul, Nat.reduceLT, Int.reduceEq, Int.reduceLT, Int.reduceLE, Int.reduceBEq, Int.reduceBNe, Int.reduceToNat, Int.reduceNeg, Int.reduceSub, Int.reduceAdd, hcb1, hcb2, hcb5, hc6]
        refine callH (collect_c e1 hI.now1 hI.r.pp.oldest (.inl hcz)) ?_
        rintro _ H6 n6 ⟨rfl, S6, ⟨N6, h6, hN6⟩, hn6, k6⟩
        have hn6 : n4 + 1 ≤ n6 := hn6
        have d6 := h4.p1 ⟨N6, h6, hN6.trans hN1⟩ hn6 k6
        obtain ⟨N7, e7⟩ := d6.h2
        simp only [push_cast, Nat.reduceBEq, Nat.reduceAdd, Nat.reduceEqDiff, reduceCtorEq, Nat.reduceLeDiff, Nat.reduceSub, Nat.reduceMul, Nat.reduceLT, Int.reduceEq, Int.reduceLT, Int.reduceLE, Int.reduceBEq, Int.reduceBNe, Int.reduceToNat, Int.reduceNeg, Int.reduceSub, Int.reduceAdd]
        refine callH (rcollect_c e7 hI.r hI.w hI.now1 (by omega) (by omega) rfl hz1 (.inl hcz) hcl) ?_
        rintro _ H8 n8 ⟨rfl, S8, E8, h8, hr8, hn8, k8⟩
        have hn8 : n6 ≤ n8 := hn8
        have d8 := d6.p2 h8 hn8 k8
        simp only [push_cast, Nat.reduceBEq, Nat.reduceAdd, Nat.reduceEqDiff, reduceCtorEq, Nat.reduceLeDiff, Nat.reduceSub, Nat.reduceMul, Nat.reduceLT, Int.reduceEq, Int.reduceLT, Int.reduceLE, Int.reduceBEq, Int.reduceBNe, Int.reduceToNat, Int.reduceNeg, Int.reduceSub, Int.reduceAdd]
        exact ⟨_, _, S6, S8, _, E8, P, X, gx, rfl, d8, hI.collect hcz hcl hr8⟩
      have hcb6 : (d.call == 6) = false := beq_eq_false_iff_ne.2 hc6
      by_cases hc3 : d.call = 3
      · obtain ⟨b, hb⟩ : ∃ b, d.data.data.toList = b := ⟨_, rfl⟩
        have hsz : d.data.size = b.length := by rw [← hb]; exact (Array.length_toList ..).symm
        have hbA : bytesA d.data = b.map byteA := by unfold bytesA; rw [hb]
        have hdd : d.data = ⟨b.toArray⟩ := by rw [← hb]
        have hus : Nat.ble b.length 140737488355328 = true := by rw [Nat.ble_eq, ← hsz]; exact hdz
        have hus2 : b.length ≤ 140737488355328 := by rw [← hsz]; exact hdz
        obtain ⟨k, r, l, er, hk, hr, hl, ht, hEne, he, g1, g2, hll2, heb⟩ := hI.last
        have hR := hI.retire (b := b) (by omega) hk hr hl ht he
        have h4b : DayH (upd H4 (n4 + 1) (some (.row true 5 (b.map byteA)))) (n4 + 1 + 1) S1 e p D S2 w mm D.pool E P X gx X := h4.same (by omega) fun j hj => upd_other (by omega)
        have hn5S1 : ¬ S1 (n4 + 1) := fun q => by have := h4.h1.lt _ q; omega
        have hn5S2 : ¬ S2 (n4 + 1) := fun q => by have := h4.h2.lt _ q; omega
        have hD4b : (upd H4 (n4 + 1) (some (.row true 5 (b.map byteA)))) n4 = _ := (upd_other (by omega)).trans hD4
        obtain ⟨N1b, e1b, hN1b⟩ := h4b.h1
        simp only [push_cast, Nat.reduceBEq, Nat.reduceAdd, Nat.reduceEqDiff, reduceCtorEq, Nat.reduceLeDiff, Nat.reduceSub, Nat.reduceMul, Nat.reduceLT, Int.reduceEq, Int.reduceLT, Int.reduceLE, Int.reduceBEq, Int.reduceBNe, Int.reduceToNat, Int.reduceNeg, Int.reduceSub, Int.reduceAdd, hcb1, hcb2, hc3, hD4, hbA, hsz, hus]
        rcases hR with ⟨er1, her, ha⟩ | ⟨hb64, d', o, s0, l', ha, hpk, hgen, hs0, hls, hnew, hI2⟩
        · refine cutK (fun s => ∃ (H6 : Hp) (n6 : Nat) (S6 : Nat → Prop), s = ⟨[(1, .sl (row.map dayI)), (7, .ptr p 0), (8, .ptr mm 0), (9, .ptr e 0), (11, .ptr w 0), (13, .rw gx 5 0 X.length), (14, .lit (.int .i64 (i : Int))), (15, .ptr n4 0), (20, .rw (n4 + 1) 1 0 b.length), (21, .ptr n6 0), (22, .lit (.int .i64 er1))], H6, n6 + 1⟩ ∧ n4 + 1 < n6 ∧ H6 n4 = some (.cells [.lit (.int .i64 d.call), .lit (.int .i64 d.n), .lit (.int .i64 d.by'), .lit (.string d.data)]) ∧ H6 (n4 + 1) = some (.row true 5 (b.map byteA)) ∧ H6 n6 = some (.cells [.lit (.int .i64 0), .lit (.int .i64 0), .lit (.int .i64 0), .lit (.int .i64 0), .lit (.int .i64 0)]) ∧ DayH H6 (n6 + 1) S6 e p D S2 w mm D.pool E P X gx X ∧ ¬ S6 n4 ∧ ¬ S6 (n4 + 1)) [1, 7, 8, 9, 11, 13, 14, 15, 20, 21, 22] ?_ ?_
          · simp only [push_cast, Nat.reduceBEq, Nat.reduceAdd, Nat.reduceEqDiff, reduceCtorEq, Nat.reduceLeDiff, Nat.reduceSub, Nat.reduceMul, Nat.reduceLT, Int.reduceEq, Int.reduceLT, Int.reduceLE, Int.reduceBEq, Int.reduceBNe, Int.reduceToNat, Int.reduceNeg, Int.reduceSub, Int.reduceAdd]
            refine callH (retire_bad e1b (g := n4 + 1) hk hr hl hll2 hus2 her ha) ?_
            rintro _ H6 n6 ⟨rfl, S6, ⟨N6, h6, hN6⟩, hn6, k6⟩
            have hn6 : n4 + 1 + 1 ≤ n6 := hn6
            have d6 := h4b.p1 ⟨N6, h6, hN6.trans hN1b⟩ hn6 k6
            have c0 : (n6 == n6) = true := beq_self_eq_true _
            unfold note0
            simp only [push_cast, Nat.reduceBEq, Nat.reduceAdd, Nat.reduceEqDiff, reduceCtorEq, Nat.reduceLeDiff, Nat.reduceSub, Nat.reduceMul, Nat.reduceLT, Int.reduceEq, Int.reduceLT, Int.reduceLE, Int.reduceBEq, Int.reduceBNe, Int.reduceToNat, Int.reduceNeg, Int.reduceSub, Int.reduceAdd]
            refine ⟨_, n6, S6, rfl, by omega, ?_, ?_, upd_same _ _ _, d6.same (by omega) fun j hj => by rw [upd_other (by omega), upd_other (by omega)], (k6 n4 (show n4 < n4 + 1 + 1 by omega) hn4S1).2, (k6 (n4 + 1) (show n4 + 1 < n4 + 1 + 1 by omega) hn5S1).2⟩
            · rw [upd_other (by omega), upd_other (by omega)]; exact (k6 n4 (show n4 < n4 + 1 + 1 by omega) hn4S1).1.trans hD4b
            · rw [upd_other (by omega), upd_other (by omega)]; exact (k6 (n4 + 1) (show n4 + 1 < n4 + 1 + 1 by omega) hn5S1).1.trans (upd_same _ _ _)
          · rintro _ ⟨H6, n6, S6, rfl, hn6, hD6, hg6, hc6', d6, hs4, hs5⟩
            simp only [push_cast, Nat.reduceBEq, Nat.reduceAdd, Nat.reduceEqDiff, reduceCtorEq, Nat.reduceLeDiff, Nat.reduceSub, Nat.reduceMul, Nat.reduceLT, Int.reduceEq, Int.reduceLT, Int.reduceLE, Int.reduceBEq, Int.reduceBNe, Int.reduceToNat, Int.reduceNeg, Int.reduceSub, Int.reduceAdd]
            refine cutK (fun s => ∃ (H7 : Hp), s = ⟨[(1, .sl (row.map dayI)), (7, .ptr p 0), (8, .ptr mm 0), (9, .ptr e 0), (11, .ptr w 0), (13, .rw gx 5 0 X.length), (14, .lit (.int .i64 (i : Int))), (15, .ptr n4 0), (21, .ptr n6 0), (22, .lit (.int .i64 er1))], H7, n6 + 1⟩ ∧ H7 n4 = some (.cells [.lit (.int .i64 d.call), .lit (.int .i64 d.n), .lit (.int .i64 d.by'), .lit (.string d.data)]) ∧ H7 n6 = some (.cells [.lit (.int .i64 0), .lit (.int .i64 0), .lit (.int .i64 0), .lit (.int .i64 0), .lit (.int .i64 0)]) ∧ DayH H7 (n6 + 1) S6 e p D S2 w mm D.pool E P X gx X) [1, 7, 8, 9, 11, 13, 14, 15, 21, 22] ?_ ?_
            · simp only [push_cast, Nat.reduceBEq, Nat.reduceAdd, Nat.reduceEqDiff, reduceCtorEq, Nat.reduceLeDiff, Nat.reduceSub, Nat.reduceMul, Nat.reduceLT, Int.reduceEq, Int.reduceLT, Int.reduceLE, Int.reduceBEq, Int.reduceBNe, Int.reduceToNat, Int.reduceNeg, Int.reduceSub, Int.reduceAdd]
              refine loopK (fun q s => ∃ (kk : Nat) (H7 : Hp) (lb : List UInt8), s = ⟨[(1, .sl (row.map dayI)), (7, .ptr p 0), (8, .ptr mm 0), (9, .ptr e 0), (11, .ptr w 0), (13, .rw gx 5 0 X.length), (14, .lit (.int .i64 (i : Int))), (15, .ptr n4 0), (20, .rw (n4 + 1) 1 0 b.length), (21, .ptr n6 0), (22, .lit (.int .i64 er1)), (23, .lit (.int .i64 (kk : Int)))], H7, n6 + 1⟩ ∧ kk ≤ b.length ∧ q = b.length - kk ∧ lb.length = b.length ∧ H7 (n4 + 1) = some (.row true 5 (lb.map byteA)) ∧ H7 n4 = some (.cells [.lit (.int .i64 d.call), .lit (.int .i64 d.n), .lit (.int .i64 d.by'), .lit (.string d.data)]) ∧ H7 n6 = some (.cells [.lit (.int .i64 0), .lit (.int .i64 0), .lit (.int .i64 0), .lit (.int .i64 0), .lit (.int .i64 0)]) ∧ DayH H7 (n6 + 1) S6 e p D S2 w mm D.pool E P X gx X) _ [1, 7, 8, 9, 11, 13, 14, 15, 20, 21, 22, 23] ⟨0, H6, b, rfl, Nat.zero_le _, rfl, rfl, hg6, hD6, hc6', d6⟩ ?_
              rintro q _ ⟨kk, H7, lb, rfl, hkk, rfl, hlb, hg7, hD7, hc7, d7⟩
              have hwk := wrap_nat0 (k := kk) (by omega)
              by_cases hkl : kk < b.length
              · have hkl' : (kk : Int) < (b.length : Int) := by omega
                obtain ⟨bx, hbx⟩ : ∃ bx, lb[kk]? = some bx := ⟨_, List.getElem?_eq_getElem (by omega)⟩
                have hbi : (lb.map byteA)[kk]? = some [.lit (.int .u8 (bx.toNat : Int))] := by rw [List.getElem?_map, hbx]; rfl
                have hset : (lb.map byteA).set kk [.lit (.int .u8 24)] = (lb.set kk 24).map byteA := by rw [List.map_set]; rfl
                simp only [push_cast, Nat.reduceBEq, Nat.reduceAdd, Nat.reduceEqDiff, reduceCtorEq, Nat.reduceLeDiff, Nat.reduceSub, Nat.reduceMul, Nat.reduceLT, Int.reduceEq, Int.reduceLT, Int.reduceLE, Int.reduceBEq, Int.reduceBNe, Int.reduceToNat, Int.reduceNeg, Int.reduceSub, Int.reduceAdd, hkl, hkl', hg7, hbi, hset, hwk]
                exact ⟨_, by omega, kk + 1, _, lb.set kk 24, rfl, hkl, rfl, by rw [List.length_set]; exact hlb, upd_same _ _ _, (upd_other (by omega)).trans hD7, (upd_other (by omega)).trans hc7, d7.u hs5 hn5S2 (by omega)⟩
              · have hkl' : ¬ (kk : Int) < (b.length : Int) := by omega
                simp only [push_cast, Nat.reduceBEq, Nat.reduceAdd, Nat.reduceEqDiff, reduceCtorEq, Nat.reduceLeDiff, Nat.reduceSub, Nat.reduceMul, Nat.reduceLT, Int.reduceEq, Int.reduceLT, Int.reduceLE, Int.reduceBEq, Int.reduceBNe, Int.reduceToNat, Int.reduceNeg, Int.reduceSub, Int.reduceAdd, hkl, hkl']
                exact ⟨_, rfl, hD7, hc7, d7⟩
            · clear d6 hD6 hg6 hc6'
              rintro _ ⟨H7, rfl, hD7, hc7, d7⟩
              obtain ⟨N7, e7⟩ := d7.h2
              have hnx7 := d7.nx
              have hR7 := rretire_bad e7 (u := d.data) hEne (by omega) he (by rw [g1]; exact hl) ht hll2 hdz her (by rw [g1, hsz]; exact ha)
              simp only [push_cast, Nat.reduceBEq, Nat.reduceAdd, Nat.reduceEqDiff, reduceCtorEq, Nat.reduceLeDiff, Nat.reduceSub, Nat.reduceMul, Nat.reduceLT, Int.reduceEq, Int.reduceLT, Int.reduceLE, Int.reduceBEq, Int.reduceBNe, Int.reduceToNat, Int.reduceNeg, Int.reduceSub, Int.reduceAdd, hD7]
              refine callH hR7 ?_
              rintro _ H8 n8 ⟨rfl, S8, h8, hn8, k8⟩
              have hn8 : n6 + 1 ≤ n8 := hn8
              have d8 := d7.p2 h8 hn8 k8
              have hn6S2 : ¬ S2 n6 := fun q => by have := h4.h2.lt _ q; omega
              have hc8 : H8 n6 = _ := (k8 n6 (show n6 < n6 + 1 by omega) hn6S2).1.trans hc7
              have f1 : (n8 == n6) = false := nb (by omega)
              have f2 : (n6 == n8) = false := nb (by omega)
              unfold note0
              simp only [push_cast, Nat.reduceBEq, Nat.reduceAdd, Nat.reduceEqDiff, reduceCtorEq, Nat.reduceLeDiff, Nat.reduceSub, Nat.reduceMul, Nat.reduceLT, Int.reduceEq, Int.reduceLT, Int.reduceLE, Int.reduceBEq, Int.reduceBNe, Int.reduceToNat, Int.reduceNeg, Int.reduceSub, Int.reduceAdd, hc8, f1, f2]
              refine callHD like_h ?_
              rintro _ H9 n9 ⟨rfl, hn9, k9⟩
              have hn9 : n8 + 1 ≤ n9 := hn9
              have k9 : ∀ j, j < n8 + 1 → H9 j = upd (upd H8 n8 (some (.cells [.lit (.int .i64 0), .lit (.int .i64 0), .lit (.int .i64 0), .lit (.int .i64 0), .lit (.int .i64 0)]))) n8 (some (.cells [.lit (.int .i64 0), .lit (.int .i64 0), .lit (.int .i64 0), .lit (.int .i64 0), .lit (.int .i64 0)])) j := k9
              have hN9 : H9 n8 = some (.cells [.lit (.int .i64 0), .lit (.int .i64 0), .lit (.int .i64 0), .lit (.int .i64 0), .lit (.int .i64 0)]) := (k9 n8 (by omega)).trans (upd_same _ _ _)
              have hc9 : H9 n6 = _ := (k9 n6 (by omega)).trans ((upd_other (by omega)).trans ((upd_other (by omega)).trans hc8))
              have d9 := d8.same (H' := H9) (n' := n9) (by omega) fun j hj => (k9 j (by omega)).trans ((upd_other (by omega)).trans (upd_other (by omega)))
              have her1 : (er1 == 0) = false := by rcases her with rfl | rfl <;> rfl
              have her2 : ¬ er1 = 0 := by rcases her with rfl | rfl <;> decide
              unfold int5
              rw [Hv.contD_at]
              refine ⟨by simp only [push_cast, Nat.reduceBEq, Nat.reduceAdd, Nat.reduceEqDiff, reduceCtorEq, Nat.reduceLeDiff, Nat.reduceSub, Nat.reduceMul, Nat.reduceLT, Int.reduceEq, Int.reduceLT, Int.reduceLE, Int.reduceBEq, Int.reduceBNe, Int.reduceToNat, Int.reduceNeg, Int.reduceSub, Int.reduceAdd, hN9], ?_⟩
              simp only [push_cast, Nat.reduceBEq, Nat.reduceAdd, Nat.reduceEqDiff, reduceCtorEq, Nat.reduceLeDiff, Nat.reduceSub, Nat.reduceMul, Nat.reduceLT, Int.reduceEq, Int.reduceLT, Int.reduceLE, Int.reduceBEq, Int.reduceBNe, Int.reduceToNat, Int.reduceNeg, Int.reduceSub, Int.reduceAdd, hN9, her1, her2]
              exact ⟨_, _, S6, S8, D, E, P, X, gx, rfl, d9, hI.up⟩
        · refine cutK (fun s => ∃ (H6 : Hp) (n6 : Nat) (S6 : Nat → Prop), s = ⟨[(1, .sl (row.map dayI)), (7, .ptr p 0), (8, .ptr mm 0), (9, .ptr e 0), (11, .ptr w 0), (13, .rw gx 5 0 X.length), (14, .lit (.int .i64 (i : Int))), (15, .ptr n4 0), (20, .rw (n4 + 1) 1 0 b.length), (21, .ptr n6 0), (22, .lit (.int .i64 0))], H6, n6 + 1⟩ ∧ n4 + 1 < n6 ∧ H6 n4 = some (.cells [.lit (.int .i64 d.call), .lit (.int .i64 d.n), .lit (.int .i64 d.by'), .lit (.string d.data)]) ∧ H6 (n4 + 1) = some (.row true 5 (b.map byteA)) ∧ H6 n6 = some (.cells [.lit (.int .i64 (D.now : Int)), .lit (.int .i64 (r.region : Int)), .lit (.int .i64 (l.gen : Int)), .lit (.int .i64 (o : Int)), .lit (.int .i64 (b.length : Int))]) ∧ DayH H6 (n6 + 1) S6 e p (D.retired (d'.stored s0 (o % d'.size) b) k r ⟨D.now, r.region, l.gen, o, b.length⟩) S2 w mm D.pool E P X gx X ∧ ¬ S6 n4 ∧ ¬ S6 (n4 + 1)) [1, 7, 8, 9, 11, 13, 14, 15, 20, 21, 22] ?_ ?_
          · simp only [push_cast, Nat.reduceBEq, Nat.reduceAdd, Nat.reduceEqDiff, reduceCtorEq, Nat.reduceLeDiff, Nat.reduceSub, Nat.reduceMul, Nat.reduceLT, Int.reduceEq, Int.reduceLT, Int.reduceLE, Int.reduceBEq, Int.reduceBNe, Int.reduceToNat, Int.reduceNeg, Int.reduceSub, Int.reduceAdd]
            refine callH (retire_c e1b (g := n4 + 1) hk hr hl hll2 (by omega) ha hpk hgen hs0 hls (m0 := true) (e0 := 5) (upd_same _ _ _) (Nat.lt_succ_self _) hn5S1 hnew (by omega)) ?_
            rintro _ H6 n6 ⟨rfl, S6, ⟨N6, h6, hN6⟩, hn6, k6⟩
            have hn6 : n4 + 1 + 1 ≤ n6 := hn6
            have d6 := h4b.p1 ⟨N6, h6, hN6.trans hN1b⟩ hn6 k6
            have c0 : (n6 == n6) = true := beq_self_eq_true _
            unfold noteA
            simp only [push_cast, Nat.reduceBEq, Nat.reduceAdd, Nat.reduceEqDiff, reduceCtorEq, Nat.reduceLeDiff, Nat.reduceSub, Nat.reduceMul, Nat.reduceLT, Int.reduceEq, Int.reduceLT, Int.reduceLE, Int.reduceBEq, Int.reduceBNe, Int.reduceToNat, Int.reduceNeg, Int.reduceSub, Int.reduceAdd]
            refine ⟨_, n6, S6, rfl, by omega, ?_, ?_, upd_same _ _ _, d6.same (by omega) fun j hj => by rw [upd_other (by omega), upd_other (by omega)], (k6 n4 (show n4 < n4 + 1 + 1 by omega) hn4S1).2, (k6 (n4 + 1) (show n4 + 1 < n4 + 1 + 1 by omega) hn5S1).2⟩
            · rw [upd_other (by omega), upd_other (by omega)]; exact (k6 n4 (show n4 < n4 + 1 + 1 by omega) hn4S1).1.trans hD4b
            · rw [upd_other (by omega), upd_other (by omega)]; exact (k6 (n4 + 1) (show n4 + 1 < n4 + 1 + 1 by omega) hn5S1).1.trans (upd_same _ _ _)
          · rintro _ ⟨H6, n6, S6, rfl, hn6, hD6, hg6, hc6', d6, hs4, hs5⟩
            have hpk2 : PoolOk (d'.stored s0 (o % d'.size) b) := by obtain ⟨_, ⟨_, pp, _⟩, _⟩ := (show ∃ N, EpH _ _ _ _ N _ ∧ _ from d6.h1); obtain ⟨_, q, _⟩ := pp; exact q.ok
            simp only [push_cast, Nat.reduceBEq, Nat.reduceAdd, Nat.reduceEqDiff, reduceCtorEq, Nat.reduceLeDiff, Nat.reduceSub, Nat.reduceMul, Nat.reduceLT, Int.reduceEq, Int.reduceLT, Int.reduceLE, Int.reduceBEq, Int.reduceBNe, Int.reduceToNat, Int.reduceNeg, Int.reduceSub, Int.reduceAdd]
            refine cutK (fun s => ∃ (H7 : Hp), s = ⟨[(1, .sl (row.map dayI)), (7, .ptr p 0), (8, .ptr mm 0), (9, .ptr e 0), (11, .ptr w 0), (13, .rw gx 5 0 X.length), (14, .lit (.int .i64 (i : Int))), (15, .ptr n4 0), (21, .ptr n6 0), (22, .lit (.int .i64 0))], H7, n6 + 1⟩ ∧ H7 n4 = some (.cells [.lit (.int .i64 d.call), .lit (.int .i64 d.n), .lit (.int .i64 d.by'), .lit (.string d.data)]) ∧ H7 n6 = some (.cells [.lit (.int .i64 (D.now : Int)), .lit (.int .i64 (r.region : Int)), .lit (.int .i64 (l.gen : Int)), .lit (.int .i64 (o : Int)), .lit (.int .i64 (b.length : Int))]) ∧ DayH H7 (n6 + 1) S6 e p (D.retired (d'.stored s0 (o % d'.size) b) k r ⟨D.now, r.region, l.gen, o, b.length⟩) S2 w mm D.pool E P X gx X) [1, 7, 8, 9, 11, 13, 14, 15, 21, 22] ?_ ?_
            · simp only [push_cast, Nat.reduceBEq, Nat.reduceAdd, Nat.reduceEqDiff, reduceCtorEq, Nat.reduceLeDiff, Nat.reduceSub, Nat.reduceMul, Nat.reduceLT, Int.reduceEq, Int.reduceLT, Int.reduceLE, Int.reduceBEq, Int.reduceBNe, Int.reduceToNat, Int.reduceNeg, Int.reduceSub, Int.reduceAdd]
              refine loopK (fun q s => ∃ (kk : Nat) (H7 : Hp) (lb : List UInt8), s = ⟨[(1, .sl (row.map dayI)), (7, .ptr p 0), (8, .ptr mm 0), (9, .ptr e 0), (11, .ptr w 0), (13, .rw gx 5 0 X.length), (14, .lit (.int .i64 (i : Int))), (15, .ptr n4 0), (20, .rw (n4 + 1) 1 0 b.length), (21, .ptr n6 0), (22, .lit (.int .i64 0)), (23, .lit (.int .i64 (kk : Int)))], H7, n6 + 1⟩ ∧ kk ≤ b.length ∧ q = b.length - kk ∧ lb.length = b.length ∧ H7 (n4 + 1) = some (.row true 5 (lb.map byteA)) ∧ H7 n4 = some (.cells [.lit (.int .i64 d.call), .lit (.int .i64 d.n), .lit (.int .i64 d.by'), .lit (.string d.data)]) ∧ H7 n6 = some (.cells [.lit (.int .i64 (D.now : Int)), .lit (.int .i64 (r.region : Int)), .lit (.int .i64 (l.gen : Int)), .lit (.int .i64 (o : Int)), .lit (.int .i64 (b.length : Int))]) ∧ DayH H7 (n6 + 1) S6 e p (D.retired (d'.stored s0 (o % d'.size) b) k r ⟨D.now, r.region, l.gen, o, b.length⟩) S2 w mm D.pool E P X gx X) _ [1, 7, 8, 9, 11, 13, 14, 15, 20, 21, 22, 23] ⟨0, H6, b, rfl, Nat.zero_le _, rfl, rfl, hg6, hD6, hc6', d6⟩ ?_
              rintro q _ ⟨kk, H7, lb, rfl, hkk, rfl, hlb, hg7, hD7, hc7, d7⟩
              have hwk := wrap_nat0 (k := kk) (by omega)
              by_cases hkl : kk < b.length
              · have hkl' : (kk : Int) < (b.length : Int) := by omega
                obtain ⟨bx, hbx⟩ : ∃ bx, lb[kk]? = some bx := ⟨_, List.getElem?_eq_getElem (by omega)⟩
                have hbi : (lb.map byteA)[kk]? = some [.lit (.int .u8 (bx.toNat : Int))] := by rw [List.getElem?_map, hbx]; rfl
                have hset : (lb.map byteA).set kk [.lit (.int .u8 24)] = (lb.set kk 24).map byteA := by rw [List.map_set]; rfl
                simp only [push_cast, Nat.reduceBEq, Nat.reduceAdd, Nat.reduceEqDiff, reduceCtorEq, Nat.reduceLeDiff, Nat.reduceSub, Nat.reduceMul, Nat.reduceLT, Int.reduceEq, Int.reduceLT, Int.reduceLE, Int.reduceBEq, Int.reduceBNe, Int.reduceToNat, Int.reduceNeg, Int.reduceSub, Int.reduceAdd, hkl, hkl', hg7, hbi, hset, hwk]
                exact ⟨_, by omega, kk + 1, _, lb.set kk 24, rfl, hkl, rfl, by rw [List.length_set]; exact hlb, upd_same _ _ _, (upd_other (by omega)).trans hD7, (upd_other (by omega)).trans hc7, d7.u hs5 hn5S2 (by omega)⟩
              · have hkl' : ¬ (kk : Int) < (b.length : Int) := by omega
                simp only [push_cast, Nat.reduceBEq, Nat.reduceAdd, Nat.reduceEqDiff, reduceCtorEq, Nat.reduceLeDiff, Nat.reduceSub, Nat.reduceMul, Nat.reduceLT, Int.reduceEq, Int.reduceLT, Int.reduceLE, Int.reduceBEq, Int.reduceBNe, Int.reduceToNat, Int.reduceNeg, Int.reduceSub, Int.reduceAdd, hkl, hkl']
                exact ⟨_, rfl, hD7, hc7, d7⟩
            · clear d6 hD6 hg6 hc6'
              rintro _ ⟨H7, rfl, hD7, hc7, d7⟩
              obtain ⟨N7, e7⟩ := d7.h2
              have hnx7 := d7.nx
              have hR7 := rretire_c e7 hdd hEne (by omega) he (by rw [g1]; exact hl) ht hll2 (by omega) (by omega) (by rw [g1]; exact ha) (by rw [g1]; exact hpk) hgen hs0 (by omega)
              have hxe : (⟨E.length, er.region, l.gen, o, b.length⟩ : NoteD) = ⟨D.now, r.region, l.gen, o, b.length⟩ := by rw [hEl, g1]
              rw [hxe] at hR7
              simp only [push_cast, Nat.reduceBEq, Nat.reduceAdd, Nat.reduceEqDiff, reduceCtorEq, Nat.reduceLeDiff, Nat.reduceSub, Nat.reduceMul, Nat.reduceLT, Int.reduceEq, Int.reduceLT, Int.reduceLE, Int.reduceBEq, Int.reduceBNe, Int.reduceToNat, Int.reduceNeg, Int.reduceSub, Int.reduceAdd, hD7]
              refine callH hR7 ?_
              rintro _ H8 n8 ⟨rfl, S8, h8, hn8, k8⟩
              have hn8 : n6 + 1 ≤ n8 := hn8
              have d8 := d7.p2 h8 hn8 k8
              have hn6S2 : ¬ S2 n6 := fun q => by have := h4.h2.lt _ q; omega
              have hc8 : H8 n6 = _ := (k8 n6 (show n6 < n6 + 1 by omega) hn6S2).1.trans hc7
              have f1 : (n8 == n6) = false := nb (by omega)
              have f2 : (n6 == n8) = false := nb (by omega)
              unfold noteA
              simp only [push_cast, Nat.reduceBEq, Nat.reduceAdd, Nat.reduceEqDiff, reduceCtorEq, Nat.reduceLeDiff, Nat.reduceSub, Nat.reduceMul, Nat.reduceLT, Int.reduceEq, Int.reduceLT, Int.reduceLE, Int.reduceBEq, Int.reduceBNe, Int.reduceToNat, Int.reduceNeg, Int.reduceSub, Int.reduceAdd, hc8, f1, f2]
              refine callHD like_h ?_
              rintro _ H9 n9 ⟨rfl, hn9, k9⟩
              have hn9 : n8 + 1 ≤ n9 := hn9
              have k9 : ∀ j, j < n8 + 1 → H9 j = upd (upd H8 n8 (some (.cells [.lit (.int .i64 0), .lit (.int .i64 0), .lit (.int .i64 0), .lit (.int .i64 0), .lit (.int .i64 0)]))) n8 (some (.cells [.lit (.int .i64 (D.now : Int)), .lit (.int .i64 (r.region : Int)), .lit (.int .i64 (l.gen : Int)), .lit (.int .i64 (o : Int)), .lit (.int .i64 (b.length : Int))])) j := k9
              have hN9 : H9 n8 = some (.cells [.lit (.int .i64 (D.now : Int)), .lit (.int .i64 (r.region : Int)), .lit (.int .i64 (l.gen : Int)), .lit (.int .i64 (o : Int)), .lit (.int .i64 (b.length : Int))]) := (k9 n8 (by omega)).trans (upd_same _ _ _)
              have hc9 : H9 n6 = _ := (k9 n6 (by omega)).trans ((upd_other (by omega)).trans ((upd_other (by omega)).trans hc8))
              have d9 := d8.same (H' := H9) (n' := n9) (by omega) fun j hj => (k9 j (by omega)).trans ((upd_other (by omega)).trans (upd_other (by omega)))
              have hx9 := d9.rx
              have hnx9 := d9.nx
              have m1 : (n9 == gx) = false := nb (by omega)
              have m2 : (gx == n9) = false := nb (by omega)
              have m3 : (n9 + 1 == gx) = false := nb (by omega)
              have q40 : (X.length + 1) * 40 ≤ 140737488355328 := by omega
              have hlx : X.length + 1 = (X ++ [(⟨D.now, r.region, l.gen, o, b.length⟩ : NoteD)]).length := by rw [List.length_append]; rfl
              unfold int5
              rw [Hv.contD_at]
              refine ⟨by simp only [push_cast, Nat.reduceBEq, Nat.reduceAdd, Nat.reduceEqDiff, reduceCtorEq, Nat.reduceLeDiff, Nat.reduceSub, Nat.reduceMul, Nat.reduceLT, Int.reduceEq, Int.reduceLT, Int.reduceLE, Int.reduceBEq, Int.reduceBNe, Int.reduceToNat, Int.reduceNeg, Int.reduceSub, Int.reduceAdd, hN9], ?_⟩
              simp only [push_cast, Nat.reduceBEq, Nat.reduceAdd, Nat.reduceEqDiff, reduceCtorEq, Nat.reduceLeDiff, Nat.reduceSub, Nat.reduceMul, Nat.reduceLT, Int.reduceEq, Int.reduceLT, Int.reduceLE, Int.reduceBEq, Int.reduceBNe, Int.reduceToNat, Int.reduceNeg, Int.reduceSub, Int.reduceAdd, hN9, hc9, hx9, m1, m2, m3, q40, List.length_map]
              rw [hlx]
              refine ⟨_, _, S6, S8, (D.retired (d'.stored s0 (o % d'.size) b) k r ⟨D.now, r.region, l.gen, o, b.length⟩), _, P, X ++ [⟨D.now, r.region, l.gen, o, b.length⟩], n9 + 1, rfl, d9.more (by omega) (by rw [upd_same, List.map_append]; rfl) (by omega) (by omega) (fun j hj hne => by rw [upd_other (by omega), upd_other (Ne.symm hne), upd_other (by omega)]), hI2 hpk2⟩
      have hcb3 : (d.call == 3) = false := beq_eq_false_iff_ne.2 hc3
      by_cases hc4 : d.call = 4
      · have hx4 := h4.rx
        simp only [push_cast, Nat.reduceBEq, Nat.reduceAdd, Nat.reduceEqDiff, reduceCtorEq, Nat.reduceLeDiff, Nat.reduceSub, Nat.reduceMul, Nat.reduceLT, Int.reduceEq, Int.reduceLT, Int.reduceLE, Int.reduceBEq, Int.reduceBNe, Int.reduceToNat, Int.reduceNeg, Int.reduceSub, Int.reduceAdd, hcb1, hcb2, hcb3, hc4, hcb5, hcb6, hD4]
        refine cutK (fun s => ∃ (H5 : Hp) (n5 : Nat) (a b c o m : Int), s = ⟨[(1, .sl (row.map dayI)), (7, .ptr p 0), (8, .ptr mm 0), (9, .ptr e 0), (11, .ptr w 0), (13, .rw gx 5 0 X.length), (14, .lit (.int .i64 (i : Int))), (26, .ptr n5 0)], H5, n5 + 1⟩ ∧ H5 n5 = some (.cells (int5 a b c o m)) ∧ DayH H5 (n5 + 1) S1 e p D S2 w mm D.pool E P X gx X ∧ ¬ S1 n5 ∧ ¬ S2 n5 ∧ (X = [] ∨ ∃ y : NoteD, a = (y.ep : Int) ∧ b = (y.reg : Int) ∧ c = (y.gen : Int) ∧ o = (y.off : Int) ∧ m = (y.len : Int))) [1, 7, 8, 9, 11, 13, 14, 26] ?_ ?_
        · by_cases hX : X = []
          · subst hX
            simp only [push_cast, Nat.reduceBEq, Nat.reduceAdd, Nat.reduceEqDiff, reduceCtorEq, Nat.reduceLeDiff, Nat.reduceSub, Nat.reduceMul, Nat.reduceLT, Int.reduceEq, Int.reduceLT, Int.reduceLE, Int.reduceBEq, Int.reduceBNe, Int.reduceToNat, Int.reduceNeg, Int.reduceSub, Int.reduceAdd, hcb1, hcb2, hcb3, hc4, hcb5, hcb6, hD4]
            refine callH (note_none (d := ⟨4, d.n, d.by', d.data⟩) hx4 h4.nx) ?_
            rintro _ H6 n6 ⟨rfl, hn6, k6⟩
            have hn6 : n4 + 1 ≤ n6 := hn6
            have d6 := h4.same (n' := n6) hn6 k6
            unfold int5
            simp only [push_cast, Nat.reduceBEq, Nat.reduceAdd, Nat.reduceEqDiff, reduceCtorEq, Nat.reduceLeDiff, Nat.reduceSub, Nat.reduceMul, Nat.reduceLT, Int.reduceEq, Int.reduceLT, Int.reduceLE, Int.reduceBEq, Int.reduceBNe, Int.reduceToNat, Int.reduceNeg, Int.reduceSub, Int.reduceAdd]
            exact ⟨_, n6, d.n, d.by', 1, 0, 1, rfl, upd_same _ _ _, d6.same (by omega) fun j hj => by rw [upd_other (by omega), upd_other (by omega)], fun q => by have := d6.h1.lt _ q; omega, fun q => by have := d6.h2.lt _ q; omega, .inl trivial⟩
          · simp only [push_cast, Nat.reduceBEq, Nat.reduceAdd, Nat.reduceEqDiff, reduceCtorEq, Nat.reduceLeDiff, Nat.reduceSub, Nat.reduceMul, Nat.reduceLT, Int.reduceEq, Int.reduceLT, Int.reduceLE, Int.reduceBEq, Int.reduceBNe, Int.reduceToNat, Int.reduceNeg, Int.reduceSub, Int.reduceAdd, hcb1, hcb2, hcb3, hc4, hcb5, hcb6, hD4]
            refine callH (note_some (d := ⟨4, d.n, d.by', d.data⟩) hx4 h4.nx hX (by omega) hdz hI.xb) ?_
            rintro _ H6 n6 ⟨⟨x, hx, rfl⟩, hn6, k6⟩
            have hn6 : n4 + 1 ≤ n6 := hn6
            have d6 := h4.same (n' := n6) hn6 k6
            unfold noteA
            simp only [push_cast, Nat.reduceBEq, Nat.reduceAdd, Nat.reduceEqDiff, reduceCtorEq, Nat.reduceLeDiff, Nat.reduceSub, Nat.reduceMul, Nat.reduceLT, Int.reduceEq, Int.reduceLT, Int.reduceLE, Int.reduceBEq, Int.reduceBNe, Int.reduceToNat, Int.reduceNeg, Int.reduceSub, Int.reduceAdd]
            exact ⟨_, n6, _, _, _, _, _, rfl, upd_same _ _ _, d6.same (by omega) fun j hj => by rw [upd_other (by omega), upd_other (by omega)], fun q => by have := d6.h1.lt _ q; omega, fun q => by have := d6.h2.lt _ q; omega, .inr ⟨noteOf ⟨4, d.n, d.by', d.data⟩ x, rfl, rfl, rfl, rfl, rfl⟩⟩
        · rintro _ ⟨H5, n5, a, b, c, o, m, rfl, hc5', d5, hs51, hs52, hnat⟩
          obtain ⟨N5, e5, hN5⟩ := d5.h1
          unfold int5 at hc5'
          rcases hI.load hnat with ⟨ha, hb⟩ | ⟨k, r, i', e', ha, hr, hmf, hi', he', hf', hXn⟩ | ⟨y, t, i', e', ⟨rfl, rfl, rfl, rfl, rfl⟩, hyX, hkt, hyi, he', hf'⟩
          · have hL := loadS_c (b := b) (c := c) (o := o) (m := m) e5 (e5.goneI ha)
            unfold int5 at hL
            simp only [push_cast, Nat.reduceBEq, Nat.reduceAdd, Nat.reduceEqDiff, reduceCtorEq, Nat.reduceLeDiff, Nat.reduceSub, Nat.reduceMul, Nat.reduceLT, Int.reduceEq, Int.reduceLT, Int.reduceLE, Int.reduceBEq, Int.reduceBNe, Int.reduceToNat, Int.reduceNeg, Int.reduceSub, Int.reduceAdd, hc5']
            refine callH hL ?_
            rintro _ H6 n6 ⟨⟨g, rfl, hg1, hg2, m0, e0, hg6⟩, hn6, k6⟩
            have hg1 : n5 + 1 ≤ g := hg1
            have hg2 : g < n6 := hg2
            have d6 := d5.same (n' := n6) (by omega) k6
            have hc6' : H6 n5 = _ := (k6 n5 (show n5 < n5 + 1 by omega)).trans hc5'
            simp only [push_cast, Nat.reduceBEq, Nat.reduceAdd, Nat.reduceEqDiff, reduceCtorEq, Nat.reduceLeDiff, Nat.reduceSub, Nat.reduceMul, Nat.reduceLT, Int.reduceEq, Int.reduceLT, Int.reduceLE, Int.reduceBEq, Int.reduceBNe, Int.reduceToNat, Int.reduceNeg, Int.reduceSub, Int.reduceAdd, hc6']
            refine callH like_h ?_
            rintro _ H7 n7 ⟨rfl, hn7, k7⟩
            have hn7 : n6 ≤ n7 := hn7
            have k7 : ∀ j, j < n6 → H7 j = H6 j := k7
            have d7 := d6.same (n' := n7) hn7 k7
            have hg7 : H7 g = _ := (k7 g hg2).trans hg6
            obtain ⟨N7, e7⟩ := d7.h2
            have hR := rload_stale (b := b) (c := c) (o := o) (m := m) e7 (by omega) hb
            unfold int5 at hR ⊢
            simp only [push_cast, Nat.reduceBEq, Nat.reduceAdd, Nat.reduceEqDiff, reduceCtorEq, Nat.reduceLeDiff, Nat.reduceSub, Nat.reduceMul, Nat.reduceLT, Int.reduceEq, Int.reduceLT, Int.reduceLE, Int.reduceBEq, Int.reduceBNe, Int.reduceToNat, Int.reduceNeg, Int.reduceSub, Int.reduceAdd]
            refine callH hR ?_
            rintro _ H8 n8 ⟨rfl, hn8, k8⟩
            have hn8 : n7 ≤ n8 := hn8
            have k8 : ∀ j, j < n7 → H8 j = H7 j := k8
            have d8 := d7.same (n' := n8) hn8 k8
            have hg8 : H8 g = _ := (k8 g (by omega)).trans hg7
            simp only [push_cast, Nat.reduceBEq, Nat.reduceAdd, Nat.reduceEqDiff, reduceCtorEq, Nat.reduceLeDiff, Nat.reduceSub, Nat.reduceMul, Nat.reduceLT, Int.reduceEq, Int.reduceLT, Int.reduceLE, Int.reduceBEq, Int.reduceBNe, Int.reduceToNat, Int.reduceNeg, Int.reduceSub, Int.reduceAdd]
            refine cutK (fun s => ∃ (H7 : Hp) (n7 g : Nat), s = ⟨[(1, .sl (row.map dayI)), (7, .ptr p 0), (8, .ptr mm 0), (9, .ptr e 0), (11, .ptr w 0), (13, .rw gx 5 0 X.length), (14, .lit (.int .i64 (i : Int))), (27, .rw g 1 0 0)], H7, n7⟩ ∧ n5 + 1 ≤ g ∧ g < n7 ∧ (∃ m0 e0, H7 g = some (.row m0 e0 [])) ∧ DayH H7 n7 S1 e p D S2 w mm D.pool E P X gx X) [1, 7, 8, 9, 11, 13, 14, 27] ?_ ?_
            · have hst : strOfNums [] = (⟨#[]⟩ : ByteArray) := rfl
              have hb0 : bytesOf [] = some [] := rfl
              have htn : List.take 0 ([] : List (List AV)) = [] := rfl
              simp only [push_cast, Nat.reduceBEq, Nat.reduceAdd, Nat.reduceEqDiff, reduceCtorEq, Nat.reduceLeDiff, Nat.reduceSub, Nat.reduceMul, Nat.reduceLT, Int.reduceEq, Int.reduceLT, Int.reduceLE, Int.reduceBEq, Int.reduceBNe, Int.reduceToNat, Int.reduceNeg, Int.reduceSub, Int.reduceAdd, hg8, hst, hb0, htn]
              exact ⟨_, _, g, rfl, by omega, by omega, ⟨m0, e0, hg8⟩, d8⟩
            · rintro _ ⟨H7, n7, g, rfl, hg1, hg2, hg7, d7⟩
              have hgS1 : ¬ S1 g := fun q => by have := d5.h1.lt _ q; omega
              have hgS2 : ¬ S2 g := fun q => by have := d5.h2.lt _ q; omega
              have hgx : g ≠ gx := by have := d5.nx; omega
              simp only [push_cast, Nat.reduceBEq, Nat.reduceAdd, Nat.reduceEqDiff, reduceCtorEq, Nat.reduceLeDiff, Nat.reduceSub, Nat.reduceMul, Nat.reduceLT, Int.reduceEq, Int.reduceLT, Int.reduceLE, Int.reduceBEq, Int.reduceBNe, Int.reduceToNat, Int.reduceNeg, Int.reduceSub, Int.reduceAdd]
              refine loopK (fun q s => s = ⟨[(1, .sl (row.map dayI)), (7, .ptr p 0), (8, .ptr mm 0), (9, .ptr e 0), (11, .ptr w 0), (13, .rw gx 5 0 X.length), (14, .lit (.int .i64 (i : Int))), (27, .rw g 1 0 0), (31, .lit (.int .i64 0))], H7, n7⟩) 0 [1, 7, 8, 9, 11, 13, 14, 27, 31] rfl ?_
              rintro q _ rfl
              simp only [push_cast, Nat.reduceBEq, Nat.reduceAdd, Nat.reduceEqDiff, reduceCtorEq, Nat.reduceLeDiff, Nat.reduceSub, Nat.reduceMul, Nat.reduceLT, Int.reduceEq, Int.reduceLT, Int.reduceLE, Int.reduceBEq, Int.reduceBNe, Int.reduceToNat, Int.reduceNeg, Int.reduceSub, Int.reduceAdd, show ¬ (0 : Int) < 0 by decide]
              exact ⟨_, _, S1, S2, D, E, P, X, gx, rfl, d7, hI.up⟩
          · have hL := loadA_c e5 ha hr hmf
            unfold int5 at hL
            simp only [push_cast, Nat.reduceBEq, Nat.reduceAdd, Nat.reduceEqDiff, reduceCtorEq, Nat.reduceLeDiff, Nat.reduceSub, Nat.reduceMul, Nat.reduceLT, Int.reduceEq, Int.reduceLT, Int.reduceLE, Int.reduceBEq, Int.reduceBNe, Int.reduceToNat, Int.reduceNeg, Int.reduceSub, Int.reduceAdd, hc5']
            refine callH hL ?_
            rintro _ H6 n6 ⟨⟨g, rfl, hg1, hg2, m0, e0, hg6⟩, hn6, k6⟩
            have hg1 : n5 + 1 ≤ g := hg1
            have hg2 : g < n6 := hg2
            have d6 := d5.same (n' := n6) (by omega) k6
            have hc6' : H6 n5 = _ := (k6 n5 (show n5 < n5 + 1 by omega)).trans hc5'
            simp only [push_cast, Nat.reduceBEq, Nat.reduceAdd, Nat.reduceEqDiff, reduceCtorEq, Nat.reduceLeDiff, Nat.reduceSub, Nat.reduceMul, Nat.reduceLT, Int.reduceEq, Int.reduceLT, Int.reduceLE, Int.reduceBEq, Int.reduceBNe, Int.reduceToNat, Int.reduceNeg, Int.reduceSub, Int.reduceAdd, hc6']
            refine callH like_h ?_
            rintro _ H7 n7 ⟨rfl, hn7, k7⟩
            have hn7 : n6 ≤ n7 := hn7
            have k7 : ∀ j, j < n6 → H7 j = H6 j := k7
            have d7 := d6.same (n' := n7) hn7 k7
            have hg7 : H7 g = _ := (k7 g hg2).trans hg6
            obtain ⟨N7, e7⟩ := d7.h2
            have hR := rload_arg e7 (by omega) (by omega) hi' he' hf' hXn
            unfold int5 at hR ⊢
            simp only [push_cast, Nat.reduceBEq, Nat.reduceAdd, Nat.reduceEqDiff, reduceCtorEq, Nat.reduceLeDiff, Nat.reduceSub, Nat.reduceMul, Nat.reduceLT, Int.reduceEq, Int.reduceLT, Int.reduceLE, Int.reduceBEq, Int.reduceBNe, Int.reduceToNat, Int.reduceNeg, Int.reduceSub, Int.reduceAdd]
            refine callH hR ?_
            rintro _ H8 n8 ⟨rfl, hn8, k8⟩
            have hn8 : n7 ≤ n8 := hn8
            have k8 : ∀ j, j < n7 → H8 j = H7 j := k8
            have d8 := d7.same (n' := n8) hn8 k8
            have hg8 : H8 g = _ := (k8 g (by omega)).trans hg7
            simp only [push_cast, Nat.reduceBEq, Nat.reduceAdd, Nat.reduceEqDiff, reduceCtorEq, Nat.reduceLeDiff, Nat.reduceSub, Nat.reduceMul, Nat.reduceLT, Int.reduceEq, Int.reduceLT, Int.reduceLE, Int.reduceBEq, Int.reduceBNe, Int.reduceToNat, Int.reduceNeg, Int.reduceSub, Int.reduceAdd]
            refine cutK (fun s => ∃ (H7 : Hp) (n7 g : Nat), s = ⟨[(1, .sl (row.map dayI)), (7, .ptr p 0), (8, .ptr mm 0), (9, .ptr e 0), (11, .ptr w 0), (13, .rw gx 5 0 X.length), (14, .lit (.int .i64 (i : Int))), (27, .rw g 1 0 0)], H7, n7⟩ ∧ n5 + 1 ≤ g ∧ g < n7 ∧ (∃ m0 e0, H7 g = some (.row m0 e0 [])) ∧ DayH H7 n7 S1 e p D S2 w mm D.pool E P X gx X) [1, 7, 8, 9, 11, 13, 14, 27] ?_ ?_
            · have hst : strOfNums [] = (⟨#[]⟩ : ByteArray) := rfl
              have hb0 : bytesOf [] = some [] := rfl
              have htn : List.take 0 ([] : List (List AV)) = [] := rfl
              simp only [push_cast, Nat.reduceBEq, Nat.reduceAdd, Nat.reduceEqDiff, reduceCtorEq, Nat.reduceLeDiff, Nat.reduceSub, Nat.reduceMul, Nat.reduceLT, Int.reduceEq, Int.reduceLT, Int.reduceLE, Int.reduceBEq, Int.reduceBNe, Int.reduceToNat, Int.reduceNeg, Int.reduceSub, Int.reduceAdd, hg8, hst, hb0, htn]
              exact ⟨_, _, g, rfl, by omega, by omega, ⟨m0, e0, hg8⟩, d8⟩
            · rintro _ ⟨H7, n7, g, rfl, hg1, hg2, hg7, d7⟩
              have hgS1 : ¬ S1 g := fun q => by have := d5.h1.lt _ q; omega
              have hgS2 : ¬ S2 g := fun q => by have := d5.h2.lt _ q; omega
              have hgx : g ≠ gx := by have := d5.nx; omega
              simp only [push_cast, Nat.reduceBEq, Nat.reduceAdd, Nat.reduceEqDiff, reduceCtorEq, Nat.reduceLeDiff, Nat.reduceSub, Nat.reduceMul, Nat.reduceLT, Int.reduceEq, Int.reduceLT, Int.reduceLE, Int.reduceBEq, Int.reduceBNe, Int.reduceToNat, Int.reduceNeg, Int.reduceSub, Int.reduceAdd]
              refine loopK (fun q s => s = ⟨[(1, .sl (row.map dayI)), (7, .ptr p 0), (8, .ptr mm 0), (9, .ptr e 0), (11, .ptr w 0), (13, .rw gx 5 0 X.length), (14, .lit (.int .i64 (i : Int))), (27, .rw g 1 0 0), (31, .lit (.int .i64 0))], H7, n7⟩) 0 [1, 7, 8, 9, 11, 13, 14, 27, 31] rfl ?_
              rintro q _ rfl
              simp only [push_cast, Nat.reduceBEq, Nat.reduceAdd, Nat.reduceEqDiff, reduceCtorEq, Nat.reduceLeDiff, Nat.reduceSub, Nat.reduceMul, Nat.reduceLT, Int.reduceEq, Int.reduceLT, Int.reduceLE, Int.reduceBEq, Int.reduceBNe, Int.reduceToNat, Int.reduceNeg, Int.reduceSub, Int.reduceAdd, show ¬ (0 : Int) < 0 by decide]
              exact ⟨_, _, S1, S2, D, E, P, X, gx, rfl, d7, hI.up⟩
          · have hlen := hkt.len hI.w.pk
            have htl : t.length ≤ 65536 := by obtain ⟨_, _, _, _, _, _, _, _, h5, _, _, h8⟩ := hkt; have := h5.inS; have := hI.w.pk.sz; omega
            obtain ⟨k', r', l', s', y1, y2, y3, y4, y5, y6, y7, y8⟩ := hkt
            have hL := loadE_c e5 y1 y2 y3 y5 y6 y7
            rw [y8, ← hlen] at hL
            unfold noteA at hL
            simp only [push_cast, Nat.reduceBEq, Nat.reduceAdd, Nat.reduceEqDiff, reduceCtorEq, Nat.reduceLeDiff, Nat.reduceSub, Nat.reduceMul, Nat.reduceLT, Int.reduceEq, Int.reduceLT, Int.reduceLE, Int.reduceBEq, Int.reduceBNe, Int.reduceToNat, Int.reduceNeg, Int.reduceSub, Int.reduceAdd, hc5']
            refine callH hL ?_
            rintro _ H6 n6 ⟨g, rfl, hg1, hg2, hg6, k6⟩
            have hg1 : n5 + 1 ≤ g := hg1
            have hg2 : g < n6 := hg2
            have d6 := d5.same (n' := n6) (by omega) k6
            have hc6' : H6 n5 = _ := (k6 n5 (show n5 < n5 + 1 by omega)).trans hc5'
            simp only [push_cast, Nat.reduceBEq, Nat.reduceAdd, Nat.reduceEqDiff, reduceCtorEq, Nat.reduceLeDiff, Nat.reduceSub, Nat.reduceMul, Nat.reduceLT, Int.reduceEq, Int.reduceLT, Int.reduceLE, Int.reduceBEq, Int.reduceBNe, Int.reduceToNat, Int.reduceNeg, Int.reduceSub, Int.reduceAdd, hc6']
            refine callH like_h ?_
            rintro _ H7 n7 ⟨rfl, hn7, k7⟩
            have hn7 : n6 ≤ n7 := hn7
            have k7 : ∀ j, j < n6 → H7 j = H6 j := k7
            have d7 := d6.same (n' := n7) hn7 k7
            have hg7 : H7 g = _ := (k7 g hg2).trans hg6
            obtain ⟨N7, e7⟩ := d7.h2
            have hR := rloadE_c e7 (by omega) (by omega) hyX hyi he' hf' y5 y6 y7
            rw [y8] at hR
            unfold noteA at hR
            unfold int5
            simp only [push_cast, Nat.reduceBEq, Nat.reduceAdd, Nat.reduceEqDiff, reduceCtorEq, Nat.reduceLeDiff, Nat.reduceSub, Nat.reduceMul, Nat.reduceLT, Int.reduceEq, Int.reduceLT, Int.reduceLE, Int.reduceBEq, Int.reduceBNe, Int.reduceToNat, Int.reduceNeg, Int.reduceSub, Int.reduceAdd]
            refine callH hR ?_
            rintro _ H8 n8 ⟨rfl, hn8, k8⟩
            have hn8 : n7 ≤ n8 := hn8
            have k8 : ∀ j, j < n7 → H8 j = H7 j := k8
            have d8 := d7.same (n' := n8) hn8 k8
            have hg8 : H8 g = _ := (k8 g (by omega)).trans hg7
            simp only [push_cast, Nat.reduceBEq, Nat.reduceAdd, Nat.reduceEqDiff, reduceCtorEq, Nat.reduceLeDiff, Nat.reduceSub, Nat.reduceMul, Nat.reduceLT, Int.reduceEq, Int.reduceLT, Int.reduceLE, Int.reduceBEq, Int.reduceBNe, Int.reduceToNat, Int.reduceNeg, Int.reduceSub, Int.reduceAdd]
            refine cutK (fun s => ∃ (H7 : Hp) (n7 g : Nat), s = ⟨[(1, .sl (row.map dayI)), (7, .ptr p 0), (8, .ptr mm 0), (9, .ptr e 0), (11, .ptr w 0), (13, .rw gx 5 0 X.length), (14, .lit (.int .i64 (i : Int))), (27, .rw g 1 0 t.length)], H7, n7⟩ ∧ n5 + 1 ≤ g ∧ g < n7 ∧ H7 g = some (.row true 5 (t.map byteA)) ∧ DayH H7 n7 S1 e p D S2 w mm D.pool E P X gx X) [1, 7, 8, 9, 11, 13, 14, 27] ?_ ?_
            · have htk : List.take t.length (byL t) = byL t := List.take_of_length_le (by rw [byL_len]; exact Nat.le_refl _)
              have hst : ((⟨t.toArray⟩ : ByteArray) != ⟨t.toArray⟩) = false := by unfold bne; rw [str_refl]; rfl
              have hg8 : H8 g = some (.row true 5 (byL t)) := hg8
              simp only [push_cast, Nat.reduceBEq, Nat.reduceAdd, Nat.reduceEqDiff, reduceCtorEq, Nat.reduceLeDiff, Nat.reduceSub, Nat.reduceMul, Nat.reduceLT, Int.reduceEq, Int.reduceLT, Int.reduceLE, Int.reduceBEq, Int.reduceBNe, Int.reduceToNat, Int.reduceNeg, Int.reduceSub, Int.reduceAdd, hg8, byL_len, htk, bytesOf_byL, strOf_byL, hst]
              exact ⟨_, _, g, rfl, by omega, by omega, hg8, d8⟩
            · rintro _ ⟨H7, n7, g, rfl, hg1, hg2, hg7, d7⟩
              have hgS1 : ¬ S1 g := fun q => by have := d5.h1.lt _ q; omega
              have hgS2 : ¬ S2 g := fun q => by have := d5.h2.lt _ q; omega
              have hgx : g ≠ gx := by have := d5.nx; omega
              simp only [push_cast, Nat.reduceBEq, Nat.reduceAdd, Nat.reduceEqDiff, reduceCtorEq, Nat.reduceLeDiff, Nat.reduceSub, Nat.reduceMul, Nat.reduceLT, Int.reduceEq, Int.reduceLT, Int.reduceLE, Int.reduceBEq, Int.reduceBNe, Int.reduceToNat, Int.reduceNeg, Int.reduceSub, Int.reduceAdd]
              refine loopK (fun q s => ∃ (kk : Nat) (H8 : Hp) (lb : List UInt8), s = ⟨[(1, .sl (row.map dayI)), (7, .ptr p 0), (8, .ptr mm 0), (9, .ptr e 0), (11, .ptr w 0), (13, .rw gx 5 0 X.length), (14, .lit (.int .i64 (i : Int))), (27, .rw g 1 0 t.length), (31, .lit (.int .i64 (kk : Int)))], H8, n7⟩ ∧ kk ≤ t.length ∧ q = t.length - kk ∧ lb.length = t.length ∧ H8 g = some (.row true 5 (lb.map byteA)) ∧ DayH H8 n7 S1 e p D S2 w mm D.pool E P X gx X) _ [1, 7, 8, 9, 11, 13, 14, 27, 31] ⟨0, H7, t, rfl, Nat.zero_le _, rfl, rfl, hg7, d7⟩ ?_
              rintro q _ ⟨kk, H8, lb, rfl, hkk, rfl, hlb, hg8, d8⟩
              have hwk := wrap_nat0 (k := kk) (by omega)
              by_cases hkl : kk < t.length
              · have hkl' : (kk : Int) < (t.length : Int) := by omega
                obtain ⟨bx, hbx⟩ : ∃ bx, lb[kk]? = some bx := ⟨_, List.getElem?_eq_getElem (by omega)⟩
                have hbi : (lb.map byteA)[kk]? = some [.lit (.int .u8 (bx.toNat : Int))] := by rw [List.getElem?_map, hbx]; rfl
                have hset : (lb.map byteA).set kk [.lit (.int .u8 25)] = (lb.set kk 25).map byteA := by rw [List.map_set]; rfl
                simp only [push_cast, Nat.reduceBEq, Nat.reduceAdd, Nat.reduceEqDiff, reduceCtorEq, Nat.reduceLeDiff, Nat.reduceSub, Nat.reduceMul, Nat.reduceLT, Int.reduceEq, Int.reduceLT, Int.reduceLE, Int.reduceBEq, Int.reduceBNe, Int.reduceToNat, Int.reduceNeg, Int.reduceSub, Int.reduceAdd, hkl, hkl', hg8, hbi, hset, hwk]
                exact ⟨_, by omega, kk + 1, _, lb.set kk 25, rfl, hkl, rfl, by rw [List.length_set]; exact hlb, upd_same _ _ _, d8.u hgS1 hgS2 hgx⟩
              · have hkl' : ¬ (kk : Int) < (t.length : Int) := by omega
                simp only [push_cast, Nat.reduceBEq, Nat.reduceAdd, Nat.reduceEqDiff, reduceCtorEq, Nat.reduceLeDiff, Nat.reduceSub, Nat.reduceMul, Nat.reduceLT, Int.reduceEq, Int.reduceLT, Int.reduceLE, Int.reduceBEq, Int.reduceBNe, Int.reduceToNat, Int.reduceNeg, Int.reduceSub, Int.reduceAdd, hkl, hkl']
                exact ⟨_, _, S1, S2, D, E, P, X, gx, rfl, d8, hI.up⟩
      have hcb4 : (d.call == 4) = false := beq_eq_false_iff_ne.2 hc4
      simp only [push_cast, Nat.reduceBEq, Nat.reduceAdd, Nat.reduceEqDiff, reduceCtorEq, Nat.reduceLeDiff, Nat.reduceSub, Nat.reduceMul, Nat.reduceLT, Int.reduceEq, Int.reduceLT, Int.reduceLE, Int.reduceBEq, Int.reduceBNe, Int.reduceToNat, Int.reduceNeg, Int.reduceSub, Int.reduceAdd, hcb1, hcb2, hcb3, hcb4, hcb5, hcb6]
      exact ⟨_, _, S1, S2, D, E, P, X, gx, rfl, h4, hI.up⟩
-- END
    · clear hI h4 hd hdz
      rintro _ ⟨H5, n5, S1, S2, D, E, P, X, gx, rfl, h5, hI⟩
      have hnowB := hI.nowB
      have hEl := hI.r.len
      have hcnt := hI.w.ok.cnt
      have hlo1 := hI.w.ok.pos.1
      obtain ⟨cc, hcz, hcl, hz1⟩ := hI.cut
      have hkept : D.kept ≤ 1000000000 := by
        unfold EpD.kept
        have : ∀ l : List EraD, (∀ r ∈ l, r.bytes ≤ 6400) → (l.map (·.bytes)).sum ≤ 6400 * l.length := by
          intro l
          induction l with
          | nil => intro _; exact Nat.le_refl _
          | cons a l ih =>
            intro hl
            have h1 := hl a List.mem_cons_self
            have h2 := ih fun r hr => hl r (List.mem_cons_of_mem _ hr)
            rw [List.map_cons, List.sum_cons, List.length_cons]
            omega
        have := this D.eras fun r hr => by have := hI.bytes r hr; omega
        omega
      obtain ⟨N2, e2⟩ := h5.h2
      simp only [push_cast, Nat.reduceBEq, Nat.reduceAdd, Nat.reduceEqDiff, reduceCtorEq, Nat.reduceLeDiff, Nat.reduceSub, Nat.reduceMul, Nat.reduceLT, Int.reduceEq, Int.reduceLT, Int.reduceLE, Int.reduceBEq, Int.reduceBNe, Int.reduceToNat, Int.reduceNeg, Int.reduceSub, Int.reduceAdd]
      refine callH (rlive_c e2 hI.r hcnt hlo1 (by omega) (by omega) (by omega)) ?_
      rintro _ H6 n6 ⟨g6, rfl, hg1, hg2, hg6, k6⟩
      have hg1 : n5 ≤ g6 := hg1
      have d6 := h5.same (n' := n6) (by omega) k6
      obtain ⟨N3, e3⟩ := d6.h2
      obtain ⟨Sp, ⟨PN, O, p1⟩, _⟩ := e3.pool
      simp only [push_cast, Nat.reduceBEq, Nat.reduceAdd, Nat.reduceEqDiff, reduceCtorEq, Nat.reduceLeDiff, Nat.reduceSub, Nat.reduceMul, Nat.reduceLT, Int.reduceEq, Int.reduceLT, Int.reduceLE, Int.reduceBEq, Int.reduceBNe, Int.reduceToNat, Int.reduceNeg, Int.reduceSub, Int.reduceAdd]
      refine callH (ridle_c p1) ?_
      rintro _ H7 n7 ⟨⟨z, rfl, _⟩, hH, hn⟩
      rw [hH, hn]
      obtain ⟨N1, e1, hN1⟩ := d6.h1
      simp only [push_cast, Nat.reduceBEq, Nat.reduceAdd, Nat.reduceEqDiff, reduceCtorEq, Nat.reduceLeDiff, Nat.reduceSub, Nat.reduceMul, Nat.reduceLT, Int.reduceEq, Int.reduceLT, Int.reduceLE, Int.reduceBEq, Int.reduceBNe, Int.reduceToNat, Int.reduceNeg, Int.reduceSub, Int.reduceAdd]
      refine callH (now_c e1) ?_
      rintro r H7 n7 ⟨hr, hH, hn⟩
      rw [hr, hH, hn]
      have zl : (D.now : Int) = (E.length : Int) := by omega
      simp only [push_cast, Nat.reduceBEq, Nat.reduceAdd, Nat.reduceEqDiff, reduceCtorEq, Nat.reduceLeDiff, Nat.reduceSub, Nat.reduceMul, Nat.reduceLT, Int.reduceEq, Int.reduceLT, Int.reduceLE, Int.reduceBEq, Int.reduceBNe, Int.reduceToNat, Int.reduceNeg, Int.reduceSub, Int.reduceAdd]
      refine callH (rnow_c e3) ?_
      rintro r H7 n7 ⟨hr, hH, hn⟩
      rw [hr, hH, hn]
      simp only [push_cast, Nat.reduceBEq, Nat.reduceAdd, Nat.reduceEqDiff, reduceCtorEq, Nat.reduceLeDiff, Nat.reduceSub, Nat.reduceMul, Nat.reduceLT, Int.reduceEq, Int.reduceLT, Int.reduceLE, Int.reduceBEq, Int.reduceBNe, Int.reduceToNat, Int.reduceNeg, Int.reduceSub, Int.reduceAdd, zl]
      refine callH (oldest_c e1 hI.r.pp.oldest) ?_
      rintro _ H8 n8 ⟨rfl, hn8, k8⟩
      have hn8 : n6 ≤ n8 := hn8
      have k8 : ∀ j, j < n6 → H8 j = H6 j := k8
      have d8 := d6.same (n' := n8) hn8 k8
      obtain ⟨N4, e4⟩ := d8.h2
      have hold := roldest_c e4 (by have := hI.pl; omega)
      rw [hEl] at hold
      simp only [push_cast, Nat.reduceBEq, Nat.reduceAdd, Nat.reduceEqDiff, reduceCtorEq, Nat.reduceLeDiff, Nat.reduceSub, Nat.reduceMul, Nat.reduceLT, Int.reduceEq, Int.reduceLT, Int.reduceLE, Int.reduceBEq, Int.reduceBNe, Int.reduceToNat, Int.reduceNeg, Int.reduceSub, Int.reduceAdd]
      refine callH hold ?_
      rintro r H9 n9 ⟨hr, hH, hn⟩
      rw [hr, hH, hn]
      obtain ⟨N5, e5, hN5⟩ := d8.h1
      simp only [push_cast, Nat.reduceBEq, Nat.reduceAdd, Nat.reduceEqDiff, reduceCtorEq, Nat.reduceLeDiff, Nat.reduceSub, Nat.reduceMul, Nat.reduceLT, Int.reduceEq, Int.reduceLT, Int.reduceLE, Int.reduceBEq, Int.reduceBNe, Int.reduceToNat, Int.reduceNeg, Int.reduceSub, Int.reduceAdd]
      refine callH (kept_c e5 (by omega)) ?_
      rintro _ H9 n9 ⟨rfl, hn9, k9⟩
      have hn9 : n8 ≤ n9 := hn9
      have k9 : ∀ j, j < n8 → H9 j = H8 j := k9
      have d9 := d8.same (n' := n9) hn9 k9
      obtain ⟨N6, e6, hN6⟩ := d9.h1
      simp only [push_cast, Nat.reduceBEq, Nat.reduceAdd, Nat.reduceEqDiff, reduceCtorEq, Nat.reduceLeDiff, Nat.reduceSub, Nat.reduceMul, Nat.reduceLT, Int.reduceEq, Int.reduceLT, Int.reduceLE, Int.reduceBEq, Int.reduceBNe, Int.reduceToNat, Int.reduceNeg, Int.reduceSub, Int.reduceAdd]
      refine callH (live_c e6 hI.now1 (by omega)) ?_
      rintro _ HA nA ⟨gA, rfl, hA1, hA2, hAr, kA⟩
      have hA1 : n9 ≤ gA := hA1
      have kA : ∀ j, j < n9 → HA j = H9 j := kA
      have dA := d9.same (n' := nA) (by omega) kA
      have hg6A : HA g6 = some (.row false 3 (D.live.map intI)) := (kA g6 (by omega)).trans ((k9 g6 (by omega)).trans ((k8 g6 hg2).trans hg6))
      have hll : D.live.length = D.eras.length := by unfold EpD.live; rw [List.length_map, List.length_range]
      have hin := ints_h (n := nA) (by rw [hll]; omega) hAr hg6A
      rw [hll] at hin
      simp only [push_cast, Nat.reduceBEq, Nat.reduceAdd, Nat.reduceEqDiff, reduceCtorEq, Nat.reduceLeDiff, Nat.reduceSub, Nat.reduceMul, Nat.reduceLT, Int.reduceEq, Int.reduceLT, Int.reduceLE, Int.reduceBEq, Int.reduceBNe, Int.reduceToNat, Int.reduceNeg, Int.reduceSub, Int.reduceAdd]
      refine callH hin ?_
      rintro r HB nB ⟨hr, hH, hn⟩
      rw [hr, hH, hn]
      obtain ⟨N7, e7, hN7⟩ := dA.h1
      obtain ⟨Sq, ⟨PN7, pp⟩, _⟩ := e7.pool
      rw [hN7] at pp
      simp only [push_cast, Nat.reduceBEq, Nat.reduceAdd, Nat.reduceEqDiff, reduceCtorEq, Nat.reduceLeDiff, Nat.reduceSub, Nat.reduceMul, Nat.reduceLT, Int.reduceEq, Int.reduceLT, Int.reduceLE, Int.reduceBEq, Int.reduceBNe, Int.reduceToNat, Int.reduceNeg, Int.reduceSub, Int.reduceAdd]
      refine callH (idle_h pp) ?_
      rintro r HB nB ⟨hr, hH, hn⟩
      rw [hr, hH, hn]
      simp only [push_cast, Nat.reduceBEq, Nat.reduceAdd, Nat.reduceEqDiff, reduceCtorEq, Nat.reduceLeDiff, Nat.reduceSub, Nat.reduceMul, Nat.reduceLT, Int.reduceEq, Int.reduceLT, Int.reduceLE, Int.reduceBEq, Int.reduceBNe, Int.reduceToNat, Int.reduceNeg, Int.reduceSub, Int.reduceAdd, hwi]
      exact ⟨_, by omega, i + 1, HA, nA, S1, S2, D, E, P, X, gx, rfl, by omega, rfl, dA, hI⟩
  · have hgo : (i : Int) < (row.length : Int) → ¬ (i : Int) < 100 := fun h h' => hend ⟨by omega, by omega⟩
    by_cases hir : i < row.length
    · have hir' : (i : Int) < (row.length : Int) := Int.ofNat_lt.2 hir
      have hn' := hgo hir'
      simp only [push_cast, Nat.reduceBEq, Nat.reduceAdd, Nat.reduceEqDiff, reduceCtorEq, Nat.reduceLeDiff, Nat.reduceSub, Nat.reduceMul, Nat.reduceLT, Int.reduceEq, Int.reduceLT, Int.reduceLE, Int.reduceBEq, Int.reduceBNe, Int.reduceToNat, Int.reduceNeg, Int.reduceSub, Int.reduceAdd, hir, hir', hn']
    · have hir' : ¬ (i : Int) < (row.length : Int) := fun h => hir (Int.ofNat_lt.1 h)
      simp only [push_cast, Nat.reduceBEq, Nat.reduceAdd, Nat.reduceEqDiff, reduceCtorEq, Nat.reduceLeDiff, Nat.reduceSub, Nat.reduceMul, Nat.reduceLT, Int.reduceEq, Int.reduceLT, Int.reduceLE, Int.reduceBEq, Int.reduceBNe, Int.reduceToNat, Int.reduceNeg, Int.reduceSub, Int.reduceAdd, hir, hir']
end Go.Proofs.Ytndojmpgadbefaa
