/- The reference's epochs: how they lie in the heap; the calls that do not touch bytes. -/
import Derived.Test.YtndojmpgadbefaaEpRF
import Derived.Test.YtndojmpgadbefaaEpRW
set_option linter.unusedVariables false
set_option linter.unusedSimpArgs false
namespace Go.Proofs.Ytndojmpgadbefaa
open Go Go.RowKit Hv
set_option maxRecDepth 20000
set_option maxHeartbeats 4000000
def noteI (x : NoteD) : List AV := [.lit (.int .i64 (x.ep : Int)), .lit (.int .i64 (x.reg : Int)), .lit (.int .i64 (x.gen : Int)), .lit (.int .i64 (x.off : Int)), .lit (.int .i64 (x.len : Int))]
def eraI (e : EraE) : List AV := [.lit (.int .i64 (e.region : Int)), .lit (.bool e.freed), .lit (.int .i64 (e.bytes : Int))]
/-- A slice that is nil, or a row of its own. -/
def SlV (H : Hp) (S : Nat → Prop) (e sz : Nat) (v : AV) (items : List (List AV)) : Prop := (v = nilV ∧ items = []) ∨ ∃ g, v = .rw g sz 0 items.length ∧ H g = some (.row true e items) ∧ S g ∧ items ≠ []
def NotIn (S : Nat → Prop) (v : AV) : Prop := ∀ g a b c, v = .rw g a b c → ¬ S g
theorem notIn_nil {S : Nat → Prop} : NotIn S nilV := fun g a b c e => by cases e
theorem notIn_rw {S : Nat → Prop} {g a b c : Nat} (h : ¬ S g) : NotIn S (.rw g a b c) := fun g' a' b' c' e => by injection e with e; rw [← e]; exact h
theorem SlV.frame {H H' : Hp} {S S' : Nat → Prop} {e sz : Nat} {v : AV} {items : List (List AV)} (h : SlV H S e sz v items) (hS : ∀ j, S j → S' j) (hh : ∀ g, v = .rw g sz 0 items.length → H' g = H g) : SlV H' S' e sz v items := by
  rcases h with h | ⟨g, h1, h2, h3, h4⟩
  · exact .inl h
  · exact .inr ⟨g, h1, (hh g h1).trans h2, hS g h3, h4⟩
structure REN where
  ge : Nat
  vp : AV
  vh : AV
structure REM (H : Hp) (n : Nat) (S : Nat → Prop) (w p : Nat) (N : REN) (d : PoolD) (E : List EraE) (P : List Int) (X : List NoteD) : Prop where
  ep : H w = some (.cells [.ptr p 0, .rw N.ge 3 0 E.length, N.vp, N.vh])
  ge : H N.ge = some (.row true 113 (E.map eraI))
  vp : SlV H S 3 1 N.vp (P.map intI)
  vh : SlV H S 56 5 N.vh (X.map noteI)
  pool : ∃ Sp, RP H n Sp p d ∧ (∀ j, Sp j → S j) ∧ ¬ Sp w ∧ ¬ Sp N.ge ∧ NotIn Sp N.vp ∧ NotIn Sp N.vh
  Sp : S w ∧ S N.ge
  lt : ∀ j, S j → j < n
def RE (H : Hp) (n : Nat) (S : Nat → Prop) (w p : Nat) (d : PoolD) (E : List EraE) (P : List Int) (X : List NoteD) : Prop := ∃ N, REM H n S w p N d E P X
def REP (H : Hp) (n : Nat) (S : Nat → Prop) (w p : Nat) (d : PoolD) (E : List EraE) (P : List Int) (X : List NoteD) (res r : AV) (H' : Hp) (n' : Nat) : Prop :=
  r = res ∧ ∃ S', RE H' n' S' w p d E P X ∧ n ≤ n' ∧ ∀ j, j < n → ¬ S j → H' j = H j ∧ ¬ S' j
section
variable {H H' : Hp} {n n' w p : Nat} {S : Nat → Prop} {d : PoolD} {N : REN} {E : List EraE} {P : List Int} {X : List NoteD}
theorem SlV.row {e sz : Nat} {v : AV} {items : List (List AV)} (h : SlV H S e sz v items) {g : Nat} (hg : v = .rw g sz 0 items.length) : H g = some (.row true e items) ∧ S g := by
  rcases h with ⟨h, _⟩ | ⟨g', h1, h2, h3, _⟩
  · rw [h] at hg; cases hg
  · rw [h1] at hg
    injection hg with hg
    rw [← hg]; exact ⟨h2, h3⟩
theorem REM.frame (h : REM H n S w p N d E P X) (hn : n ≤ n') (hh : ∀ j, S j → H' j = H j) : REM H' n' S w p N d E P X := by
  obtain ⟨Sp, p1, p2, p3⟩ := h.pool
  exact ⟨(hh _ h.Sp.1).trans h.ep, (hh _ h.Sp.2).trans h.ge, h.vp.frame (fun _ q => q) (fun g e => hh g (h.vp.row e).2), h.vh.frame (fun _ q => q) (fun g e => hh g (h.vh.row e).2), ⟨Sp, p1.frame hn fun j hj => hh j (p2 j hj), p2, p3⟩, h.Sp, fun j hj => Nat.lt_of_lt_of_le (h.lt j hj) hn⟩
/-- The pool is another. -/
theorem REM.pooled (h : REM H n S w p N d E P X) {Sp Sq : Nat → Prop} {d' : PoolD} (p2 : ∀ j, Sp j → S j) (p3 : ¬ Sp w ∧ ¬ Sp N.ge ∧ NotIn Sp N.vp ∧ NotIn Sp N.vh) (q : RP H' n' Sq p d') (hn : n ≤ n') (k : ∀ j, j < n → ¬ Sp j → H' j = H j ∧ ¬ Sq j) :
    REM H' n' (fun j => S j ∨ Sq j) w p N d' E P X := by
  obtain ⟨a1, a2, a3, a4⟩ := p3
  have lw := h.lt w h.Sp.1
  have lg := h.lt N.ge h.Sp.2
  refine ⟨(k w lw a1).1.trans h.ep, (k N.ge lg a2).1.trans h.ge, h.vp.frame (fun _ q => .inl q) (fun g e => (k g (h.lt g (h.vp.row e).2) (a3 _ _ _ _ e)).1), h.vh.frame (fun _ q => .inl q) (fun g e => (k g (h.lt g (h.vh.row e).2) (a4 _ _ _ _ e)).1), ⟨Sq, q, fun j hj => .inr hj, (k w lw a1).2, (k N.ge lg a2).2, fun g a b c e => ?_, fun g a b c e => ?_⟩, ⟨.inl h.Sp.1, .inl h.Sp.2⟩, fun j hj => ?_⟩
  · rcases h.vp with ⟨x, _⟩ | ⟨g', x1, _, x3, _⟩
    · rw [x] at e; cases e
    · have ha := a3 _ _ _ _ x1
      rw [x1] at e
      injection e with e
      rw [← e]
      exact (k g' (h.lt g' x3) ha).2
  · rcases h.vh with ⟨x, _⟩ | ⟨g', x1, _, x3, _⟩
    · rw [x] at e; cases e
    · have ha := a4 _ _ _ _ x1
      rw [x1] at e
      injection e with e
      rw [← e]
      exact (k g' (h.lt g' x3) ha).2
  · rcases hj with hj | hj
    · exact Nat.lt_of_lt_of_le (h.lt j hj) hn
    · exact q.lt j hj
theorem REM.nes (h : REM H n S w p N d E P X) : N.ge ≠ w ∧ (∀ g, N.vp = .rw g 1 0 (P.map intI).length → g ≠ w ∧ g ≠ N.ge) ∧ (∀ g, N.vh = .rw g 5 0 (X.map noteI).length → g ≠ w ∧ g ≠ N.ge) ∧ ∀ g g', N.vp = .rw g 1 0 (P.map intI).length → N.vh = .rw g' 5 0 (X.map noteI).length → g ≠ g' := by
  refine ⟨heap_ne h.ge h.ep (by intro e; cases e), fun g e => ?_, fun g e => ?_, fun g g' e e' => ?_⟩
  · have q := (h.vp.row e).1
    exact ⟨heap_ne q h.ep (by intro e; cases e), heap_ne q h.ge (by intro e; injection e with _ e; exact absurd e (by decide))⟩
  · have q := (h.vh.row e).1
    exact ⟨heap_ne q h.ep (by intro e; cases e), heap_ne q h.ge (by intro e; injection e with _ e; exact absurd e (by decide))⟩
  · exact heap_ne (h.vp.row e).1 (h.vh.row e').1 (by intro e; injection e with _ e; exact absurd e (by decide))
/-- The eras are others, in a row of the same place or another. -/
theorem REM.eras (h : REM H n S w p N d E P X) {g : Nat} {E' : List EraE} (hn : n ≤ n') (hw : H' w = some (.cells [.ptr p 0, .rw g 3 0 E'.length, N.vp, N.vh])) (hg : H' g = some (.row true 113 (E'.map eraI))) (hgn : g < n') (hgS : g = N.ge ∨ n ≤ g) (k : ∀ j, j < n → j ≠ w → j ≠ N.ge → H' j = H j) :
    REM H' n' (fun j => S j ∨ j = g) w p ⟨g, N.vp, N.vh⟩ d E' P X := by
  obtain ⟨Sp, p1, p2, p3, p4, p5, p6⟩ := h.pool
  obtain ⟨n1, n2, n3, n4⟩ := h.nes
  refine ⟨hw, hg, h.vp.frame (fun _ q => .inl q) (fun g e => k g (h.lt g (h.vp.row e).2) (n2 g e).1 (n2 g e).2), h.vh.frame (fun _ q => .inl q) (fun g e => k g (h.lt g (h.vh.row e).2) (n3 g e).1 (n3 g e).2), ⟨Sp, p1.frame hn fun j hj => k j (p1.lt j hj) (fun e => p3 (e ▸ hj)) (fun e => p4 (e ▸ hj)), fun j hj => .inl (p2 j hj), p3, ?_, p5, p6⟩, ⟨.inl h.Sp.1, .inr rfl⟩, fun j hj => ?_⟩
  · rcases hgS with e | e
    · rw [e]; exact p4
    · exact fun q => by have := p1.lt g q; omega
  · rcases hj with hj | rfl
    · exact Nat.lt_of_lt_of_le (h.lt j hj) hn
    · exact hgn
/-- The pins are others. -/
theorem REM.pins (h : REM H n S w p N d E P X) {g : Nat} {P' : List Int} (hne : P' ≠ []) (hn : n ≤ n') (hw : H' w = some (.cells [.ptr p 0, .rw N.ge 3 0 E.length, .rw g 1 0 P'.length, N.vh])) (hg : H' g = some (.row true 3 (P'.map intI))) (hgn : g < n') (hgS : N.vp = .rw g 1 0 P.length ∨ n ≤ g) (k : ∀ j, j < n → j ≠ w → (∀ g, N.vp = .rw g 1 0 P.length → j ≠ g) → H' j = H j) :
    REM H' n' (fun j => S j ∨ j = g) w p ⟨N.ge, .rw g 1 0 P'.length, N.vh⟩ d E P' X := by
  obtain ⟨Sp, p1, p2, p3, p4, p5, p6⟩ := h.pool
  obtain ⟨n1, n2, n3, n4⟩ := h.nes
  simp only [List.length_map] at n2 n4
  refine ⟨hw, (k N.ge (h.lt _ h.Sp.2) n1 fun g e => Ne.symm (n2 g e).2).trans h.ge, .inr ⟨g, by rw [List.length_map], hg, .inr rfl, by simpa using hne⟩, h.vh.frame (fun _ q => .inl q) (fun g e => k g (h.lt g (h.vh.row e).2) (n3 g e).1 fun g' e' => Ne.symm (n4 g' g e' (by rw [List.length_map] at e; exact e))), ⟨Sp, p1.frame hn fun j hj => k j (p1.lt j hj) (fun e => p3 (e ▸ hj)) (fun g e e' => p5 _ _ _ _ e (e' ▸ hj)), fun j hj => .inl (p2 j hj), p3, p4, notIn_rw ?_, p6⟩, ⟨.inl h.Sp.1, .inl h.Sp.2⟩, fun j hj => ?_⟩
  · rcases hgS with e | e
    · exact p5 _ _ _ _ e
    · exact fun q => by have := p1.lt g q; omega
  · rcases hj with hj | rfl
    · exact Nat.lt_of_lt_of_le (h.lt j hj) hn
    · exact hgn
/-- The notes are one more. -/
theorem REM.had (h : REM H n S w p N d E P X) {g : Nat} {X' : List NoteD} (hne : X' ≠ []) (hn : n ≤ n') (hw : H' w = some (.cells [.ptr p 0, .rw N.ge 3 0 E.length, N.vp, .rw g 5 0 X'.length])) (hg : H' g = some (.row true 56 (X'.map noteI))) (hgn : g < n') (hgS : n ≤ g) (k : ∀ j, S j → j ≠ w → (∀ g, N.vh = .rw g 5 0 X.length → j ≠ g) → H' j = H j) :
    REM H' n' (fun j => S j ∨ j = g) w p ⟨N.ge, N.vp, .rw g 5 0 X'.length⟩ d E P X' := by
  obtain ⟨Sp, p1, p2, p3, p4, p5, p6⟩ := h.pool
  obtain ⟨n1, n2, n3, n4⟩ := h.nes
  simp only [List.length_map] at n3 n4
  refine ⟨hw, (k N.ge h.Sp.2 n1 fun g e => Ne.symm (n3 g e).2).trans h.ge, h.vp.frame (fun _ q => .inl q) (fun g e => k g (h.vp.row e).2 (n2 g e).1 fun g' e' => n4 g g' (by rw [List.length_map] at e; exact e) e'), .inr ⟨g, by rw [List.length_map], hg, .inr rfl, by simpa using hne⟩, ⟨Sp, p1.frame hn fun j hj => k j (p2 j hj) (fun e => p3 (e ▸ hj)) (fun g e e' => p6 _ _ _ _ e (e' ▸ hj)), fun j hj => .inl (p2 j hj), p3, p4, p5, notIn_rw fun q => by have := p1.lt g q; omega⟩, ⟨.inl h.Sp.1, .inl h.Sp.2⟩, fun j hj => ?_⟩
  rcases hj with hj | rfl
  · exact Nat.lt_of_lt_of_le (h.lt j hj) hn
  · exact hgn
theorem rnow_c (h : REM H n S w p N d E P X) : HCalls Try.prog 34 [.ptr w 0] H n fun r H' n' => r = .lit (.int .i64 (E.length : Int)) ∧ H' = H ∧ n' = n := by
  refine hcallsC_of (rs := [.tmp 2]) ⟨[0, 2], [], [], [], []⟩ TOk mixed Try.func34 rfl rfl (by kernel_rfl) (by kernel_rfl) rfl ?_
  have ep := h.ep
  simp only [push_cast, Nat.reduceBEq, Nat.reduceAdd, Nat.reduceEqDiff, reduceCtorEq, Nat.reduceLeDiff, Nat.reduceSub, Nat.reduceMul, Nat.reduceLT, Int.reduceEq, Int.reduceLT, Int.reduceLE, Int.reduceBEq, Int.reduceBNe, Int.reduceToNat, Int.reduceNeg, Int.reduceSub, Int.reduceAdd, ep]
theorem radv_c (h : REM H n S w p N d E P X) {i : Nat} {l : LandD} (hl : d.lands[i]? = some l) (hf : l.there = false) (hb : ∀ (j : Nat) (l : LandD), j < i → d.lands[j]? = some l → l.there = true) (hg : l.gen ≤ 1000000000) (hE : E.length ≤ 1000000) :
    HCalls Try.prog 29 [.ptr w 0] H n (REP H n S w p (d.made i l) (E ++ [⟨i, false, 0⟩]) P X (.tup [.lit (.int .i64 ((E.length + 1 : Nat) : Int)), .lit (.int .i64 0)])) := by
  refine hcallsC_of (rs := [.tmp 2, .tmp 3]) ⟨[0, 2, 3, 4, 5, 15], [25], [], [], []⟩ TOk mixed Try.func29 rfl rfl (by kernel_rfl) (by kernel_rfl) rfl ?_
  have ep := h.ep
  obtain ⟨Sp, ⟨PN, O, p1⟩, p2, p3⟩ := h.pool
  simp only [push_cast, Nat.reduceBEq, Nat.reduceAdd, Nat.reduceEqDiff, reduceCtorEq, Nat.reduceLeDiff, Nat.reduceSub, Nat.reduceMul, Nat.reduceLT, Int.reduceEq, Int.reduceLT, Int.reduceLE, Int.reduceBEq, Int.reduceBNe, Int.reduceToNat, Int.reduceNeg, Int.reduceSub, Int.reduceAdd, ep]
  refine callH (rmake_c p1 hl hf hb hg) ?_
  rintro _ H1 n1 ⟨rfl, Sq, q1, hn1, k1⟩
  have hn1 : n ≤ n1 := hn1
  have k1 : ∀ j, j < n → ¬ Sp j → H1 j = H j ∧ ¬ Sq j := k1
  have h1 := h.pooled p2 p3 q1 hn1 k1
  have ep1 := h1.ep
  have ge1 := h1.ge
  obtain ⟨n2, n3, n4, n5⟩ := h1.nes
  have e1 := nb n2
  have e2 := nb (Ne.symm n2)
  have hwl := h1.lt w h1.Sp.1
  have hgl := h1.lt _ h1.Sp.2
  have e3 : (n1 == w) = false := nb (by omega)
  have e4 : (n1 == N.ge) = false := nb (by omega)
  have e5 : (N.ge == n1) = false := nb (by omega)
  have e6 : (n1 + 1 == w) = false := nb (by omega)
  have q5 : (E.length + 1) * 24 ≤ 140737488355328 := by omega
  simp only [push_cast, Nat.reduceBEq, Nat.reduceAdd, Nat.reduceEqDiff, reduceCtorEq, Nat.reduceLeDiff, Nat.reduceSub, Nat.reduceMul, Nat.reduceLT, Int.reduceEq, Int.reduceLT, Int.reduceLE, Int.reduceBEq, Int.reduceBNe, Int.reduceToNat, Int.reduceNeg, Int.reduceSub, Int.reduceAdd, ep1, ge1, e1, e2, e3, e4, e5, e6, q5]
  have hE := h1.eras (g := n1 + 1) (E' := E ++ [⟨i, false, 0⟩]) (n' := n1 + 1 + 1) (H' := upd (upd (upd (upd H1 n1 (some (.row false 113 [[.lit (.int .i64 (i : Int)), .lit (.bool false), .lit (.int .i64 0)]]))) N.ge (oldO true 113 (E.map eraI))) (n1 + 1) (some (.row true 113 (E.map eraI ++ [[.lit (.int .i64 (i : Int)), .lit (.bool false), .lit (.int .i64 0)]])))) w (some (.cells [.ptr p 0, .rw (n1 + 1) 3 0 (E.length + 1), N.vp, N.vh])))
    (by omega) (by rw [upd_same, List.length_append]; rfl) (by rw [upd_other (by omega), upd_same, List.map_append]; rfl) (by omega) (.inr (by omega)) (fun j hj h2 h3 => by rw [upd_other (Ne.symm h2), upd_other (by omega), upd_other (Ne.symm h3), upd_other (by omega)])
  refine ⟨rfl, _, ⟨_, hE⟩, by omega, fun j hj hs => ⟨?_, ?_⟩⟩
  · rw [upd_other (fun q => hs (by rw [← q]; exact h.Sp.1)), upd_other (by omega), upd_other (fun q => hs (by rw [← q]; exact h.Sp.2)), upd_other (by omega)]
    exact (k1 j hj fun q => hs (p2 j q)).1
  · rintro ((q | q) | q)
    · exact hs q
    · exact (k1 j hj fun q => hs (p2 j q)).2 q
    · omega
theorem rcount_c (h : REM H n S w p N d E P X) (hP : P.length ≤ 100000) : HCalls Try.prog 43 [.ptr w 0] H n fun r H' n' => (∃ c : Nat, r = .lit (.int .i64 (c : Int)) ∧ c ≤ P.length) ∧ H' = H ∧ n' = n := by
  refine hcallsC_of (rs := [.tmp 2]) ⟨[0, 2, 3, 4, 11, 21], [], [], [], []⟩ TOk mixed Try.func43 rfl rfl (by kernel_rfl) (by kernel_rfl) rfl ?_
  have ep := h.ep
  simp only [push_cast, Nat.reduceBEq, Nat.reduceAdd, Nat.reduceEqDiff, reduceCtorEq, Nat.reduceLeDiff, Nat.reduceSub, Nat.reduceMul, Nat.reduceLT, Int.reduceEq, Int.reduceLT, Int.reduceLE, Int.reduceBEq, Int.reduceBNe, Int.reduceToNat, Int.reduceNeg, Int.reduceSub, Int.reduceAdd]
  refine loopK (fun q s => ∃ (k c : Nat), s = ⟨[(0, .ptr w 0), (3, .lit (.int .i64 (c : Int))), (4, .lit (.int .i64 (k : Int)))], H, n⟩ ∧ k ≤ P.length ∧ c ≤ k ∧ q = P.length - k) _ [0, 3, 4] ⟨0, 0, rfl, Nat.zero_le _, Nat.le_refl _, rfl⟩ ?_
  rintro q _ ⟨k, c, rfl, hk, hck, rfl⟩
  have hwk := wrap_nat0 (k := k) (by omega)
  have hwc := wrap_nat0 (k := c) (by omega)
  rcases h.vp with ⟨hv, hi⟩ | ⟨g, hv, hg, hS, _⟩
  · have hP0 : P = [] := List.map_eq_nil_iff.1 hi
    subst hP0
    rw [hv] at ep
    unfold nilV at ep
    have hk0 : k = 0 := by simp at hk; exact hk
    subst hk0
    simp only [push_cast, Nat.reduceBEq, Nat.reduceAdd, Nat.reduceEqDiff, reduceCtorEq, Nat.reduceLeDiff, Nat.reduceSub, Nat.reduceMul, Nat.reduceLT, Int.reduceEq, Int.reduceLT, Int.reduceLE, Int.reduceBEq, Int.reduceBNe, Int.reduceToNat, Int.reduceNeg, Int.reduceSub, Int.reduceAdd, ep, show ¬ ((0 : Nat) : Int) < 0 by decide]
    exact ⟨c, rfl, hck⟩
  · rw [hv, List.length_map] at ep
    by_cases hkl : k < P.length
    · have hkl' : (k : Int) < (P.length : Int) := by omega
      obtain ⟨x, hx⟩ : ∃ x, P[k]? = some x := ⟨_, List.getElem?_eq_getElem hkl⟩
      have hxi : (P.map intI)[k]? = some [.lit (.int .i64 x)] := by rw [List.getElem?_map, hx]; rfl
      by_cases hx0 : x > 0
      · have hx0' : 0 < x := hx0
        simp only [push_cast, Nat.reduceBEq, Nat.reduceAdd, Nat.reduceEqDiff, reduceCtorEq, Nat.reduceLeDiff, Nat.reduceSub, Nat.reduceMul, Nat.reduceLT, Int.reduceEq, Int.reduceLT, Int.reduceLE, Int.reduceBEq, Int.reduceBNe, Int.reduceToNat, Int.reduceNeg, Int.reduceSub, Int.reduceAdd, ep, hg, hkl, hkl', hxi, hx0, hx0', hwk, hwc]
        exact ⟨_, by omega, k + 1, c + 1, rfl, hkl, by omega, rfl⟩
      · have hx0' : ¬ 0 < x := hx0
        simp only [push_cast, Nat.reduceBEq, Nat.reduceAdd, Nat.reduceEqDiff, reduceCtorEq, Nat.reduceLeDiff, Nat.reduceSub, Nat.reduceMul, Nat.reduceLT, Int.reduceEq, Int.reduceLT, Int.reduceLE, Int.reduceBEq, Int.reduceBNe, Int.reduceToNat, Int.reduceNeg, Int.reduceSub, Int.reduceAdd, ep, hg, hkl, hkl', hxi, hx0, hx0', hwk]
        exact ⟨_, by omega, k + 1, c, rfl, hkl, by omega, rfl⟩
    · have hkl' : ¬ (k : Int) < (P.length : Int) := by omega
      simp only [push_cast, Nat.reduceBEq, Nat.reduceAdd, Nat.reduceEqDiff, reduceCtorEq, Nat.reduceLeDiff, Nat.reduceSub, Nat.reduceMul, Nat.reduceLT, Int.reduceEq, Int.reduceLT, Int.reduceLE, Int.reduceBEq, Int.reduceBNe, Int.reduceToNat, Int.reduceNeg, Int.reduceSub, Int.reduceAdd, ep, hkl, hkl']
      exact ⟨c, rfl, by omega⟩
theorem rpin_c (h : REM H n S w p N d E P X) (hP : P.length < 1000) (hE : E.length ≤ 1000000) :
    HCalls Try.prog 20 [.ptr w 0] H n (REP H n S w p d E (P ++ [(E.length : Int)]) X (.tup [.lit (.int .i64 ((P.length + 1 : Nat) : Int)), .lit (.int .i64 0)])) := by
  refine hcallsC_of (rs := [.tmp 2, .tmp 3]) ⟨[0, 2, 3, 6], [15], [], [(3, [(0, [], []), (1, [], []), (2, [], []), (3, [], []), (4, [], []), (5, [], []), (6, [4], [5]), (7, [], []), (8, [], [4, 7, 6, 3, 5, 2, 1]), (9, [], []), (10, [], []), (11, [], [10, 8, 0, 1, 2, 3, 4, 5, 6, 7, 9])])], []⟩ TOk mixed Try.func20 rfl rfl (by kernel_rfl) (by kernel_rfl) rfl ?_
  have ep := h.ep
  simp only [push_cast, Nat.reduceBEq, Nat.reduceAdd, Nat.reduceEqDiff, reduceCtorEq, Nat.reduceLeDiff, Nat.reduceSub, Nat.reduceMul, Nat.reduceLT, Int.reduceEq, Int.reduceLT, Int.reduceLE, Int.reduceBEq, Int.reduceBNe, Int.reduceToNat, Int.reduceNeg, Int.reduceSub, Int.reduceAdd]
  refine callH (rcount_c h (by omega)) ?_
  rintro _ H1 n1 ⟨⟨c, rfl, hc⟩, hH, hn⟩
  rw [hH, hn]
  have hc1 : ¬ (c : Int) ≥ 1000 := by omega
  have hwl := h.lt w h.Sp.1
  obtain ⟨n2, n3, n4, n5⟩ := h.nes
  rcases h.vp with ⟨hv, hi⟩ | ⟨g, hv, hg, hS, _⟩
  · have hP0 : P = [] := List.map_eq_nil_iff.1 hi
    subst hP0
    rw [hv] at ep
    unfold nilV at ep
    simp only [push_cast, Nat.reduceBEq, Nat.reduceAdd, Nat.reduceEqDiff, reduceCtorEq, Nat.reduceLeDiff, Nat.reduceSub, Nat.reduceMul, Nat.reduceLT, Int.reduceEq, Int.reduceLT, Int.reduceLE, Int.reduceBEq, Int.reduceBNe, Int.reduceToNat, Int.reduceNeg, Int.reduceSub, Int.reduceAdd, hc1, ep]
    refine callHD (rnow_c h) ?_
    rintro r H1 n1 ⟨hr, hH, hn⟩
    rw [hr, hH, hn, Hv.contD_at]
    refine ⟨by simp only [push_cast, Nat.reduceBEq, Nat.reduceAdd, Nat.reduceEqDiff, reduceCtorEq, Nat.reduceLeDiff, Nat.reduceSub, Nat.reduceMul, Nat.reduceLT, Int.reduceEq, Int.reduceLT, Int.reduceLE, Int.reduceBEq, Int.reduceBNe, Int.reduceToNat, Int.reduceNeg, Int.reduceSub, Int.reduceAdd, ep], ?_⟩
    have e3 : (n == w) = false := nb (by omega)
    have e4 : (n + 1 == w) = false := nb (by omega)
    simp only [push_cast, Nat.reduceBEq, Nat.reduceAdd, Nat.reduceEqDiff, reduceCtorEq, Nat.reduceLeDiff, Nat.reduceSub, Nat.reduceMul, Nat.reduceLT, Int.reduceEq, Int.reduceLT, Int.reduceLE, Int.reduceBEq, Int.reduceBNe, Int.reduceToNat, Int.reduceNeg, Int.reduceSub, Int.reduceAdd, ep, e3, e4]
    have hE := h.pins (g := n) (P' := [(E.length : Int)]) (by simp) (n' := n + 1) (H' := upd (upd H n (some (.row true 3 [[.lit (.int .i64 (E.length : Int))]]))) w (some (.cells [.ptr p 0, .rw N.ge 3 0 E.length, .rw n 1 0 1, N.vh])))
      (by omega) (upd_same _ _ _) (by rw [upd_other (by omega), upd_same]; rfl) (by omega) (.inr (by omega)) (fun j hj h2 h3 => by rw [upd_other (Ne.symm h2), upd_other (by omega)])
    refine ⟨rfl, _, ⟨_, hE⟩, by omega, fun j hj hs => ⟨?_, ?_⟩⟩
    · rw [upd_other (fun q => hs (by rw [← q]; exact h.Sp.1)), upd_other (by omega)]
    · rintro (q | q)
      · exact hs q
      · omega
  · rw [hv, List.length_map] at ep
    simp only [push_cast, Nat.reduceBEq, Nat.reduceAdd, Nat.reduceEqDiff, reduceCtorEq, Nat.reduceLeDiff, Nat.reduceSub, Nat.reduceMul, Nat.reduceLT, Int.reduceEq, Int.reduceLT, Int.reduceLE, Int.reduceBEq, Int.reduceBNe, Int.reduceToNat, Int.reduceNeg, Int.reduceSub, Int.reduceAdd, hc1, ep]
    refine callHD (rnow_c h) ?_
    rintro r H1 n1 ⟨hr, hH, hn⟩
    rw [hr, hH, hn, Hv.contD_at]
    refine ⟨by simp only [push_cast, Nat.reduceBEq, Nat.reduceAdd, Nat.reduceEqDiff, reduceCtorEq, Nat.reduceLeDiff, Nat.reduceSub, Nat.reduceMul, Nat.reduceLT, Int.reduceEq, Int.reduceLT, Int.reduceLE, Int.reduceBEq, Int.reduceBNe, Int.reduceToNat, Int.reduceNeg, Int.reduceSub, Int.reduceAdd, ep], ?_⟩
    have hgl := h.lt g hS
    have n3 := n3 g hv
    have e1 := nb n3.1
    have e2 := nb (Ne.symm n3.1)
    have e3 : (n == w) = false := nb (by omega)
    have e4 : (n == g) = false := nb (by omega)
    have e5 : (g == n) = false := nb (by omega)
    have e6 : (n + 1 == w) = false := nb (by omega)
    have q5 : (P.length + 1) * 8 ≤ 140737488355328 := by omega
    simp only [push_cast, Nat.reduceBEq, Nat.reduceAdd, Nat.reduceEqDiff, reduceCtorEq, Nat.reduceLeDiff, Nat.reduceSub, Nat.reduceMul, Nat.reduceLT, Int.reduceEq, Int.reduceLT, Int.reduceLE, Int.reduceBEq, Int.reduceBNe, Int.reduceToNat, Int.reduceNeg, Int.reduceSub, Int.reduceAdd, ep, hg, e1, e2, e3, e4, e5, e6, q5]
    have hE := h.pins (g := n) (P' := P ++ [(E.length : Int)]) (by simp) (n' := n + 1) (H' := upd (upd (upd H g (oldO true 3 (P.map intI))) n (some (.row true 3 (P.map intI ++ [[.lit (.int .i64 (E.length : Int))]])))) w (some (.cells [.ptr p 0, .rw N.ge 3 0 E.length, .rw n 1 0 (P.length + 1), N.vh])))
      (by omega) (by rw [upd_same, List.length_append]; rfl) (by rw [upd_other (by omega), upd_same, List.map_append]; rfl) (by omega) (.inr (by omega)) (fun j hj h2 h3 => by rw [upd_other (Ne.symm h2), upd_other (by omega), upd_other (Ne.symm (h3 g (by rw [hv, List.length_map])))])
    refine ⟨rfl, _, ⟨_, hE⟩, by omega, fun j hj hs => ⟨?_, ?_⟩⟩
    · rw [upd_other (fun q => hs (by rw [← q]; exact h.Sp.1)), upd_other (by omega), upd_other (fun q => hs (by rw [← q]; exact hS))]
    · rintro (q | q)
      · exact hs q
      · omega
theorem runpin_no (h : REM H n S w p N d E P X) {z : Int} (hP : P.length ≤ 100000) (hz : z < 1 ∨ (P.length : Int) < z ∨ ∃ k : Nat, z = ((k + 1 : Nat) : Int) ∧ P[k]? = some 0) :
    HCalls Try.prog 21 [.ptr w 0, .lit (.int .i64 z)] H n fun r H' n' => r = .lit (.int .i64 7) ∧ H' = H ∧ n' = n := by
  refine hcallsC_of (rs := [.tmp 4]) ⟨[0, 1, 4, 26], [], [], [], []⟩ TOk mixed Try.func21 rfl rfl (by kernel_rfl) (by kernel_rfl) rfl ?_
  have ep := h.ep
  have hcs : (z < 1) ∨ (∃ q : ¬ z < 1, z > (P.length : Int)) ∨ ∃ k : Nat, z = (k : Int) + 1 ∧ P[k]? = some 0 := by
    rcases hz with hz | hz | ⟨k, h1, h2⟩
    · exact .inl hz
    · by_cases h1 : z < 1
      · exact .inl h1
      · exact .inr (.inl ⟨h1, hz⟩)
    · exact .inr (.inr ⟨k, h1, h2⟩)
  clear hz
  rcases hcs with hz | ⟨hz, hz2⟩ | ⟨k, rfl, hk⟩
  · simp only [push_cast, Nat.reduceBEq, Nat.reduceAdd, Nat.reduceEqDiff, reduceCtorEq, Nat.reduceLeDiff, Nat.reduceSub, Nat.reduceMul, Nat.reduceLT, Int.reduceEq, Int.reduceLT, Int.reduceLE, Int.reduceBEq, Int.reduceBNe, Int.reduceToNat, Int.reduceNeg, Int.reduceSub, Int.reduceAdd, hz]
  · have hz3 : (P.length : Int) < z := hz2
    rcases h.vp with ⟨hv, hi⟩ | ⟨g, hv, hg, hS, _⟩
    · have hP0 : P = [] := List.map_eq_nil_iff.1 hi
      subst hP0
      rw [hv] at ep
      unfold nilV at ep
      have hz4 : z > 0 := hz2
      have hz5 : (0 : Int) < z := hz2
      simp only [push_cast, Nat.reduceBEq, Nat.reduceAdd, Nat.reduceEqDiff, reduceCtorEq, Nat.reduceLeDiff, Nat.reduceSub, Nat.reduceMul, Nat.reduceLT, Int.reduceEq, Int.reduceLT, Int.reduceLE, Int.reduceBEq, Int.reduceBNe, Int.reduceToNat, Int.reduceNeg, Int.reduceSub, Int.reduceAdd, hz, hz4, hz5, ep]
    · rw [hv, List.length_map] at ep
      simp only [push_cast, Nat.reduceBEq, Nat.reduceAdd, Nat.reduceEqDiff, reduceCtorEq, Nat.reduceLeDiff, Nat.reduceSub, Nat.reduceMul, Nat.reduceLT, Int.reduceEq, Int.reduceLT, Int.reduceLE, Int.reduceBEq, Int.reduceBNe, Int.reduceToNat, Int.reduceNeg, Int.reduceSub, Int.reduceAdd, hz, hz2, hz3, ep]
  · have hkl := (List.getElem?_eq_some_iff.1 hk).1
    have g1 : ¬ (k : Int) + 1 < 1 := by omega
    have g2 : ¬ (k : Int) + 1 > (P.length : Int) := by omega
    have g2' : ¬ (P.length : Int) < (k : Int) + 1 := by omega
    have hw : IntKind.i64.wrap ((k : Int) + 1 - 1) = (k : Int) := by rw [show (k : Int) + 1 - 1 = (k : Int) by omega]; exact IntWalk.i64_in _ (by omega)
    rcases h.vp with ⟨hv, hi⟩ | ⟨g, hv, hg, hS, _⟩
    · have hP0 : P = [] := List.map_eq_nil_iff.1 hi
      subst hP0
      simp at hkl
    · rw [hv, List.length_map] at ep
      have hki : (P.map intI)[k]? = some [.lit (.int .i64 0)] := by rw [List.getElem?_map, hk]; rfl
      have hkl' : (k : Int) < (P.length : Int) := by omega
      simp only [push_cast, Nat.reduceBEq, Nat.reduceAdd, Nat.reduceEqDiff, reduceCtorEq, Nat.reduceLeDiff, Nat.reduceSub, Nat.reduceMul, Nat.reduceLT, Int.reduceEq, Int.reduceLT, Int.reduceLE, Int.reduceBEq, Int.reduceBNe, Int.reduceToNat, Int.reduceNeg, Int.reduceSub, Int.reduceAdd, g1, g2, g2', hw, ep, hg, hki, hkl, hkl']
theorem runpin_c (h : REM H n S w p N d E P X) {k : Nat} {v : Int} (hP : P.length ≤ 100000) (hk : P[k]? = some v) (hv0 : v ≠ 0) :
    HCalls Try.prog 21 [.ptr w 0, .lit (.int .i64 ((k + 1 : Nat) : Int))] H n (REP H n S w p d E (P.set k 0) X (.lit (.int .i64 0))) := by
  refine hcallsC_of (rs := [.tmp 4]) ⟨[0, 1, 4, 26], [], [], [], []⟩ TOk mixed Try.func21 rfl rfl (by kernel_rfl) (by kernel_rfl) rfl ?_
  have ep := h.ep
  have hkl := (List.getElem?_eq_some_iff.1 hk).1
  have g1 : ¬ (k : Int) + 1 < 1 := by omega
  have g2 : ¬ (k : Int) + 1 > (P.length : Int) := by omega
  have g2' : ¬ (P.length : Int) < (k : Int) + 1 := by omega
  have hw : IntKind.i64.wrap ((k : Int) + 1 - 1) = (k : Int) := by rw [show (k : Int) + 1 - 1 = (k : Int) by omega]; exact IntWalk.i64_in _ (by omega)
  have hvb : (v == 0) = false := beq_eq_false_iff_ne.2 hv0
  rcases h.vp with ⟨hv, hi⟩ | ⟨g, hv, hg, hS, _⟩
  · have hP0 : P = [] := List.map_eq_nil_iff.1 hi
    subst hP0
    simp at hkl
  · rw [hv, List.length_map] at ep
    have hki : (P.map intI)[k]? = some [.lit (.int .i64 v)] := by rw [List.getElem?_map, hk]; rfl
    have hkl' : (k : Int) < (P.length : Int) := by omega
    simp only [push_cast, Nat.reduceBEq, Nat.reduceAdd, Nat.reduceEqDiff, reduceCtorEq, Nat.reduceLeDiff, Nat.reduceSub, Nat.reduceMul, Nat.reduceLT, Int.reduceEq, Int.reduceLT, Int.reduceLE, Int.reduceBEq, Int.reduceBNe, Int.reduceToNat, Int.reduceNeg, Int.reduceSub, Int.reduceAdd, g1, g2, g2', hw, ep, hg, hki, hkl, hkl', hvb, hv0]
    have hgl := h.lt g hS
    obtain ⟨n2, n3, n4, n5⟩ := h.nes
    have n3 := n3 g hv
    have hE := h.pins (g := g) (P' := P.set k 0) (by intro e; rw [← List.length_eq_zero_iff, List.length_set] at e; omega) (n' := n) (H' := upd H g (some (.row true 3 ((P.map intI).set k [.lit (.int .i64 0)]))))
      (Nat.le_refl _) (by rw [upd_other n3.1, List.length_set]; exact ep) (by rw [upd_same, List.map_set]; rfl) hgl (.inl (by rw [hv, List.length_map])) (fun j hj h2 h3 => upd_other (Ne.symm (h3 g (by rw [hv, List.length_map]))))
    refine ⟨rfl, _, ⟨_, hE⟩, Nat.le_refl _, fun j hj hs => ⟨?_, ?_⟩⟩
    · exact upd_other (fun q => hs (by rw [← q]; exact hS))
    · rintro (q | q)
      · exact hs q
      · exact hs (by rw [q]; exact hS)
theorem roldest_c (h : REM H n S w p N d E P X) (hP : P.length ≤ 100000) : HCalls Try.prog 35 [.ptr w 0] H n fun r H' n' => r = .lit (.int .i64 (leastP (E.length : Int) P)) ∧ H' = H ∧ n' = n := by
  refine hcallsC_of (rs := [.tmp 2]) ⟨[0, 2, 3, 4, 13, 34], [], [], [], []⟩ TOk mixed Try.func35 rfl rfl (by kernel_rfl) (by kernel_rfl) rfl ?_
  have ep := h.ep
  simp only [push_cast, Nat.reduceBEq, Nat.reduceAdd, Nat.reduceEqDiff, reduceCtorEq, Nat.reduceLeDiff, Nat.reduceSub, Nat.reduceMul, Nat.reduceLT, Int.reduceEq, Int.reduceLT, Int.reduceLE, Int.reduceBEq, Int.reduceBNe, Int.reduceToNat, Int.reduceNeg, Int.reduceSub, Int.reduceAdd]
  refine callH (rnow_c h) ?_
  rintro r H1 n1 ⟨hr, hH, hn⟩
  rw [hr, hH, hn]
  simp only [push_cast, Nat.reduceBEq, Nat.reduceAdd, Nat.reduceEqDiff, reduceCtorEq, Nat.reduceLeDiff, Nat.reduceSub, Nat.reduceMul, Nat.reduceLT, Int.reduceEq, Int.reduceLT, Int.reduceLE, Int.reduceBEq, Int.reduceBNe, Int.reduceToNat, Int.reduceNeg, Int.reduceSub, Int.reduceAdd]
  refine loopK (fun q s => ∃ (m : Nat), s = ⟨[(0, .ptr w 0), (3, .lit (.int .i64 (leastP (E.length : Int) (P.take m)))), (4, .lit (.int .i64 (m : Int)))], H, n⟩ ∧ m ≤ P.length ∧ q = P.length - m) _ [0, 3, 4] ⟨0, rfl, Nat.zero_le _, rfl⟩ ?_
  rintro q _ ⟨m, rfl, hm, rfl⟩
  have hwm := wrap_nat0 (k := m) (by omega)
  rcases h.vp with ⟨hv, hi⟩ | ⟨g, hv, hg, hS, _⟩
  · have hP0 : P = [] := List.map_eq_nil_iff.1 hi
    subst hP0
    rw [hv] at ep
    unfold nilV at ep
    have hm0 : m = 0 := by simp at hm; exact hm
    subst hm0
    simp only [push_cast, Nat.reduceBEq, Nat.reduceAdd, Nat.reduceEqDiff, reduceCtorEq, Nat.reduceLeDiff, Nat.reduceSub, Nat.reduceMul, Nat.reduceLT, Int.reduceEq, Int.reduceLT, Int.reduceLE, Int.reduceBEq, Int.reduceBNe, Int.reduceToNat, Int.reduceNeg, Int.reduceSub, Int.reduceAdd, ep, show ¬ ((0 : Nat) : Int) < 0 by decide]
  · rw [hv, List.length_map] at ep
    by_cases hml : m < P.length
    · have hml' : (m : Int) < (P.length : Int) := by omega
      obtain ⟨v, hvv⟩ : ∃ v, P[m]? = some v := ⟨_, List.getElem?_eq_getElem hml⟩
      have hvi : (P.map intI)[m]? = some [.lit (.int .i64 v)] := by rw [List.getElem?_map, hvv]; rfl
      have hsn : leastP (E.length : Int) (P.take (m + 1)) = if 0 < v then (if v < leastP (E.length : Int) (P.take m) then v else leastP (E.length : Int) (P.take m)) else leastP (E.length : Int) (P.take m) := by
        rw [List.take_add_one, hvv, ← leastP_snoc]; rfl
      obtain ⟨y, hy⟩ : ∃ y, leastP (E.length : Int) (P.take m) = y := ⟨_, rfl⟩
      rw [hy] at hsn ⊢
      by_cases hv0 : v > 0
      · have hv0' : 0 < v := hv0
        by_cases hvy : v < y
        · simp only [hv0', hvy, if_true] at hsn
          simp only [push_cast, Nat.reduceBEq, Nat.reduceAdd, Nat.reduceEqDiff, reduceCtorEq, Nat.reduceLeDiff, Nat.reduceSub, Nat.reduceMul, Nat.reduceLT, Int.reduceEq, Int.reduceLT, Int.reduceLE, Int.reduceBEq, Int.reduceBNe, Int.reduceToNat, Int.reduceNeg, Int.reduceSub, Int.reduceAdd, ep, hml, hml', hg, hvi, hv0, hv0', hvy, hwm]
          exact ⟨_, by omega, m + 1, by rw [hsn]; rfl, hml, rfl⟩
        · simp only [hv0', hvy, if_true, if_false] at hsn
          simp only [push_cast, Nat.reduceBEq, Nat.reduceAdd, Nat.reduceEqDiff, reduceCtorEq, Nat.reduceLeDiff, Nat.reduceSub, Nat.reduceMul, Nat.reduceLT, Int.reduceEq, Int.reduceLT, Int.reduceLE, Int.reduceBEq, Int.reduceBNe, Int.reduceToNat, Int.reduceNeg, Int.reduceSub, Int.reduceAdd, ep, hml, hml', hg, hvi, hv0, hv0', hvy, hwm]
          exact ⟨_, by omega, m + 1, by rw [hsn]; rfl, hml, rfl⟩
      · have hv0' : ¬ 0 < v := hv0
        simp only [hv0', if_false] at hsn
        simp only [push_cast, Nat.reduceBEq, Nat.reduceAdd, Nat.reduceEqDiff, reduceCtorEq, Nat.reduceLeDiff, Nat.reduceSub, Nat.reduceMul, Nat.reduceLT, Int.reduceEq, Int.reduceLT, Int.reduceLE, Int.reduceBEq, Int.reduceBNe, Int.reduceToNat, Int.reduceNeg, Int.reduceSub, Int.reduceAdd, ep, hml, hml', hg, hvi, hv0, hv0', hwm]
        exact ⟨_, by omega, m + 1, by rw [hsn]; rfl, hml, rfl⟩
    · have hml' : ¬ (m : Int) < (P.length : Int) := by omega
      have hme : m = P.length := by omega
      rw [hme, List.take_length]
      simp only [push_cast, Nat.reduceBEq, Nat.reduceAdd, Nat.reduceEqDiff, reduceCtorEq, Nat.reduceLeDiff, Nat.reduceSub, Nat.reduceMul, Nat.reduceLT, Int.reduceEq, Int.reduceLT, Int.reduceLE, Int.reduceBEq, Int.reduceBNe, Int.reduceToNat, Int.reduceNeg, Int.reduceSub, Int.reduceAdd, ep, show ¬ P.length < P.length from Nat.lt_irrefl _, show ¬ (P.length : Int) < (P.length : Int) from Int.lt_irrefl _]
end
end Go.Proofs.Ytndojmpgadbefaa
