/- Epochs: how they lie in the heap; what reads only. -/
import Derived.Test.YtndojmpgadbefaaEpN
import Derived.Test.YtndojmpgadbefaaKsIE
set_option linter.unusedVariables false
set_option linter.unusedSimpArgs false
namespace Go.Proofs.Ytndojmpgadbefaa
open Go Go.RowKit Hv
set_option maxRecDepth 20000
set_option maxHeartbeats 4000000
structure NoteD where
  ep : Nat
  reg : Nat
  gen : Nat
  off : Nat
  len : Nat
deriving DecidableEq
def noteA (x : NoteD) : AV := .agg [.lit (.int .i64 (x.ep : Int)), .lit (.int .i64 (x.reg : Int)), .lit (.int .i64 (x.gen : Int)), .lit (.int .i64 (x.off : Int)), .lit (.int .i64 (x.len : Int))]
theorem keyOk_note : KeyOk noteA := fun a b => by
  simp only [noteA, keyEq, keyCells, keyCell, if_true, Option.some.injEq]
  rw [Bool.eq_iff_iff]
  obtain ⟨a1, a2, a3, a4, a5⟩ := a
  obtain ⟨b1, b2, b3, b4, b5⟩ := b
  simp
  omega
def unitA (_ : Unit) : AV := .agg []
def ptrA (i : Nat) : AV := .ptr i 0
structure EraD where
  region : Nat
  notes : List (Ent NoteD Unit)
  nc : Nat
  bytes : Nat
structure EpD where
  pool : PoolD
  now : Nat
  last : Nat
  lo : Nat
  eras : List EraD
  pins : List (Ent Int Int)
  pc : Nat
structure EpOk (D : EpD) : Prop where
  cnt : D.lo + D.eras.length = D.now + 1
  pos : 1 ≤ D.lo ∧ (D.now = 0 ∨ D.eras ≠ [])
  nowB : D.now ≤ 1000000000
  lastB : D.last ≤ 1000000000
  pinK : ∀ x ∈ D.pins, 1 ≤ x.key ∧ x.key ≤ D.last
  pinV : ∀ x ∈ D.pins, 1 ≤ x.val ∧ x.val ≤ D.now
  pinN : D.pins.length ≤ 1000
  reg : ∀ r ∈ D.eras, ∃ l, D.pool.lands[r.region]? = some l ∧ l.there = true
  regN : (D.eras.map (·.region)).Nodup
  byteB : ∀ r ∈ D.eras, r.bytes ≤ 1000000000
structure EpN where
  p : Nat
  lv : Nat
  pn : Nat
  ps : List (Nat × Nat)
  es : List (Ent Int Nat)
  lc : Nat
structure EpH (H : Hp) (n : Nat) (S : Nat → Prop) (e : Nat) (N : EpN) (D : EpD) : Prop where
  ep : H e = some (.cells [.ptr N.p 0, .lit (.int .i64 (D.now : Int)), .mp N.lv, .mp N.pn, .lit (.int .i64 (D.last : Int)), .lit (.bool false)])
  pool : ∃ Sp, Pool H n Sp N.p D.pool ∧ (∀ j, Sp j → S j) ∧ ¬ Sp e ∧ ¬ Sp N.lv ∧ ¬ Sp N.pn ∧ ∀ x ∈ N.ps, ¬ Sp x.1 ∧ ¬ Sp x.2
  lv : H N.lv = some (.map (N.es.map (Ent.me intA ptrA)) N.lc)
  lvOk : MapOk N.es N.lc
  pn : H N.pn = some (.map (D.pins.map (Ent.me intA intA)) D.pc)
  pnOk : MapOk D.pins D.pc
  er : ∀ (i : Nat) (x : Nat × Nat) (r : EraD), N.ps[i]? = some x → D.eras[i]? = some r → H x.1 = some (.cells [.lit (.int .i64 (r.region : Int)), .mp x.2, .lit (.int .i64 (r.bytes : Int))]) ∧ H x.2 = some (.map (r.notes.map (Ent.me noteA unitA)) r.nc) ∧ MapOk r.notes r.nc
  esl : N.es.length = D.eras.length ∧ N.ps.length = D.eras.length
  es : ∀ (i : Nat) (en : Ent Int Nat), N.es[i]? = some en → ∃ x, N.ps[i]? = some x ∧ en.key = ((D.lo + i : Nat) : Int) ∧ en.val = x.1
  nd : (N.ps.map (·.1)).Nodup ∧ (N.ps.map (·.2)).Nodup
  Sp : S e ∧ S N.lv ∧ S N.pn ∧ ∀ x ∈ N.ps, S x.1 ∧ S x.2
  ne : N.lv ≠ N.pn ∧ ∀ x ∈ N.ps, x.2 ≠ N.lv ∧ x.2 ≠ N.pn
  lt : ∀ j, S j → j < n
  ok : EpOk D
def Ep (H : Hp) (n : Nat) (S : Nat → Prop) (e p : Nat) (D : EpD) : Prop := ∃ N, EpH H n S e N D ∧ N.p = p
def EpP (H : Hp) (n : Nat) (S : Nat → Prop) (e p : Nat) (D' : EpD) (res r : AV) (H' : Hp) (n' : Nat) : Prop :=
  r = res ∧ ∃ S', Ep H' n' S' e p D' ∧ n ≤ n' ∧ ∀ j, j < n → ¬ S j → H' j = H j ∧ ¬ S' j
section
variable {H H' : Hp} {n n' e p : Nat} {S : Nat → Prop} {D : EpD} {N : EpN}
theorem EpH.frame (h : EpH H n S e N D) (hn : n ≤ n') (hh : ∀ j, S j → H' j = H j) : EpH H' n' S e N D := by
  obtain ⟨Sp, p1, p2, p3, p4, p5, p6⟩ := h.pool
  refine ⟨(hh _ h.Sp.1).trans h.ep, ⟨Sp, p1.frame hn fun j hj => hh j (p2 j hj), p2, p3, p4, p5, p6⟩, (hh _ h.Sp.2.1).trans h.lv, h.lvOk, (hh _ h.Sp.2.2.1).trans h.pn, h.pnOk, fun i x r h1 h2 => ?_, h.esl, h.es, h.nd, h.Sp, h.ne, fun j hj => Nat.lt_of_lt_of_le (h.lt j hj) hn, h.ok⟩
  obtain ⟨q1, q2, q3⟩ := h.er i x r h1 h2
  obtain ⟨s1, s2⟩ := h.Sp.2.2.2 x (List.mem_of_getElem? h1)
  exact ⟨(hh _ s1).trans q1, (hh _ s2).trans q2, q3⟩
theorem Ep.frame (h : Ep H n S e p D) (hn : n ≤ n') (hh : ∀ j, S j → H' j = H j) : Ep H' n' S e p D := by
  obtain ⟨N, h, hp⟩ := h
  exact ⟨N, h.frame hn hh, hp⟩
theorem Ep.lt (h : Ep H n S e p D) : ∀ j, S j → j < n := by
  obtain ⟨N, h, _⟩ := h
  exact h.lt
theorem Ep.ok (h : Ep H n S e p D) : EpOk D := by
  obtain ⟨N, h, _⟩ := h
  exact h.ok
theorem Ep.nu {m : Nat} (h : Ep H n S e p D) (hm : n ≤ m) : ¬ S m := fun hs => Nat.lt_irrefl _ (Nat.lt_of_lt_of_le (h.lt m hs) hm)
theorem Ep.u {m : Nat} {o : Option AO} (h : Ep H n S e p D) (hm : ¬ S m) : Ep (upd H m o) n S e p D :=
  h.frame (Nat.le_refl _) fun j hj => upd_other (fun e => hm (e ▸ hj))
theorem Ep.new {m : Nat} {o : Option AO} (h : Ep H n S e p D) (hm : n ≤ m) (hn : n ≤ n') : Ep (upd H m o) n' S e p D :=
  (h.u (h.nu hm)).frame hn fun _ _ => rfl
theorem EpH.nes (h : EpH H n S e N D) : e ≠ N.lv ∧ e ≠ N.pn ∧ ∀ x ∈ N.ps, x.1 ≠ e ∧ x.1 ≠ N.lv ∧ x.1 ≠ N.pn ∧ x.2 ≠ e := by
  refine ⟨heap_ne h.ep h.lv (by intro e; cases e), heap_ne h.ep h.pn (by intro e; cases e), fun x hx => ?_⟩
  obtain ⟨i, hi⟩ := List.mem_iff_getElem?.1 hx
  obtain ⟨r, hr⟩ : ∃ r, D.eras[i]? = some r := ⟨_, List.getElem?_eq_getElem (by rw [← h.esl.2]; exact (List.getElem?_eq_some_iff.1 hi).1)⟩
  obtain ⟨q1, q2, _⟩ := h.er i x r hi hr
  exact ⟨heap_ne q1 h.ep (by intro e; cases e), heap_ne q1 h.lv (by intro e; cases e), heap_ne q1 h.pn (by intro e; cases e), heap_ne q2 h.ep (by intro e; cases e)⟩
theorem none_h {p now lv pn last : AV} (h : H e = some (.cells [p, now, lv, pn, last, .lit (.bool false)])) : HCalls Try.prog 40 [.ptr e 0] H n fun r H' n' => r = .lit (.bool false) ∧ H' = H ∧ n' = n := by
  refine hcallsC_of (rs := [.tmp 2]) ⟨[0, 2], [], [], [], []⟩ TOk mixed Try.func40 rfl rfl (by kernel_rfl) (by kernel_rfl) rfl ?_
  simp only [push_cast, Nat.reduceBEq, Nat.reduceAdd, Nat.reduceEqDiff, reduceCtorEq, Nat.reduceLeDiff, Nat.reduceSub, Nat.reduceMul, Nat.reduceLT, Int.reduceEq, Int.reduceLT, Int.reduceLE, Int.reduceBEq, Int.reduceBNe, Int.reduceToNat, Int.reduceNeg, Int.reduceSub, Int.reduceAdd, h]
theorem now_c (h : EpH H n S e N D) : HCalls Try.prog 11 [.ptr e 0] H n fun r H' n' => r = .lit (.int .i64 (D.now : Int)) ∧ H' = H ∧ n' = n := by
  refine hcallsC_of (rs := [.tmp 2]) ⟨[0, 2, 4], [], [], [], []⟩ TOk mixed Try.func11 rfl rfl (by kernel_rfl) (by kernel_rfl) rfl ?_
  have ep := h.ep
  simp only [push_cast, Nat.reduceBEq, Nat.reduceAdd, Nat.reduceEqDiff, reduceCtorEq, Nat.reduceLeDiff, Nat.reduceSub, Nat.reduceMul, Nat.reduceLT, Int.reduceEq, Int.reduceLT, Int.reduceLE, Int.reduceBEq, Int.reduceBNe, Int.reduceToNat, Int.reduceNeg, Int.reduceSub, Int.reduceAdd]
  refine callH (none_h ep) ?_
  rintro _ H n ⟨rfl, rfl, rfl⟩
  simp only [push_cast, Nat.reduceBEq, Nat.reduceAdd, Nat.reduceEqDiff, reduceCtorEq, Nat.reduceLeDiff, Nat.reduceSub, Nat.reduceMul, Nat.reduceLT, Int.reduceEq, Int.reduceLT, Int.reduceLE, Int.reduceBEq, Int.reduceBNe, Int.reduceToNat, Int.reduceNeg, Int.reduceSub, Int.reduceAdd, ep]
theorem unpin_no (h : EpH H n S e N D) {k : Int} (hk : lookE D.pins k = none) : HCalls Try.prog 15 [.ptr e 0, .lit (.int .i64 k)] H n fun r H' n' => r = .lit (.int .i64 7) ∧ n ≤ n' ∧ ∀ j, j < n → H' j = H j := by
  refine hcallsC_of (rs := [.tmp 4]) ⟨[0, 1, 4, 6, 8, 19], [], [], [], []⟩ TOk mixed Try.func15 rfl rfl (by kernel_rfl) (by kernel_rfl) rfl ?_
  have ep := h.ep
  have pn := h.pn
  have hf := mfind_no (vA := intA) keyOk_intA hk
  simp only [intA] at hf
  simp only [push_cast, Nat.reduceBEq, Nat.reduceAdd, Nat.reduceEqDiff, reduceCtorEq, Nat.reduceLeDiff, Nat.reduceSub, Nat.reduceMul, Nat.reduceLT, Int.reduceEq, Int.reduceLT, Int.reduceLE, Int.reduceBEq, Int.reduceBNe, Int.reduceToNat, Int.reduceNeg, Int.reduceSub, Int.reduceAdd]
  refine callH (none_h ep) ?_
  rintro _ H n ⟨rfl, rfl, rfl⟩
  simp only [push_cast, Nat.reduceBEq, Nat.reduceAdd, Nat.reduceEqDiff, reduceCtorEq, Nat.reduceLeDiff, Nat.reduceSub, Nat.reduceMul, Nat.reduceLT, Int.reduceEq, Int.reduceLT, Int.reduceLE, Int.reduceBEq, Int.reduceBNe, Int.reduceToNat, Int.reduceNeg, Int.reduceSub, Int.reduceAdd, ep, pn, hf]
/-- The pins are others. -/
def EpD.pinned (D : EpD) (last : Nat) (pins : List (Ent Int Int) × Nat) : EpD := ⟨D.pool, D.now, last, D.lo, D.eras, pins.1, pins.2⟩
theorem EpH.pinsTo (h : EpH H n S e N D) (hn : n ≤ n') {last : Nat} {pins : List (Ent Int Int) × Nat} (he : H' e = some (.cells [.ptr N.p 0, .lit (.int .i64 (D.now : Int)), .mp N.lv, .mp N.pn, .lit (.int .i64 (last : Int)), .lit (.bool false)]))
    (hp : H' N.pn = some (.map (pins.1.map (Ent.me intA intA)) pins.2)) (hok : MapOk pins.1 pins.2) (hh : ∀ j, S j → j ≠ e → j ≠ N.pn → H' j = H j) (ok : EpOk (D.pinned last pins)) : EpH H' n' S e N (D.pinned last pins) := by
  obtain ⟨Sp, p1, p2, p3, p4, p5, p6⟩ := h.pool
  obtain ⟨n1, n2, n3⟩ := h.nes
  refine ⟨he, ⟨Sp, p1.frame hn fun j hj => hh j (p2 j hj) (fun x => p3 (x ▸ hj)) (fun x => p5 (x ▸ hj)), p2, p3, p4, p5, p6⟩, (hh _ h.Sp.2.1 (Ne.symm n1) h.ne.1).trans h.lv, h.lvOk, hp, hok, fun i x r h1 h2 => ?_, h.esl, h.es, h.nd, h.Sp, h.ne, fun j hj => Nat.lt_of_lt_of_le (h.lt j hj) hn, ok⟩
  have hx := List.mem_of_getElem? h1
  obtain ⟨q1, q2, q3⟩ := h.er i x r h1 h2
  obtain ⟨s1, s2⟩ := h.Sp.2.2.2 x hx
  obtain ⟨m1, m2, m3, m4⟩ := n3 x hx
  exact ⟨(hh _ s1 m1 m3).trans q1, (hh _ s2 m4 (h.ne.2 x hx).2).trans q2, q3⟩
theorem map_erase {α β : Type} (f : α → β) : ∀ (l : List α) (i : Nat), (l.map f).eraseIdx i = (l.eraseIdx i).map f
  | [], i => rfl
  | a :: l, 0 => rfl
  | a :: l, i + 1 => by rw [List.map_cons, List.eraseIdx_cons_succ, List.eraseIdx_cons_succ, List.map_cons, map_erase f l i]
theorem del_sub {es : List (Ent Int Int)} {k : Int} : ∀ x ∈ delE es k, x ∈ es := fun x hx => by
  unfold delE at hx
  split at hx
  · exact List.mem_of_mem_eraseIdx hx
  · exact hx
theorem unpin_c (h : EpH H n S e N D) {k v : Int} (hk : lookE D.pins k = some v) :
    HCalls Try.prog 15 [.ptr e 0, .lit (.int .i64 k)] H n (EpP H n S e N.p (D.pinned D.last (delE D.pins k, D.pc)) (.lit (.int .i64 0))) := by
  refine hcallsC_of (rs := [.tmp 4]) ⟨[0, 1, 4, 6, 8, 19], [], [], [], []⟩ TOk mixed Try.func15 rfl rfl (by kernel_rfl) (by kernel_rfl) rfl ?_
  have ep := h.ep
  have pn := h.pn
  obtain ⟨i, x, hi, hx, hxk, hxv, hf⟩ := mfind_yes (vA := intA) keyOk_intA hk
  simp only [intA] at hf
  simp only [push_cast, Nat.reduceBEq, Nat.reduceAdd, Nat.reduceEqDiff, reduceCtorEq, Nat.reduceLeDiff, Nat.reduceSub, Nat.reduceMul, Nat.reduceLT, Int.reduceEq, Int.reduceLT, Int.reduceLE, Int.reduceBEq, Int.reduceBNe, Int.reduceToNat, Int.reduceNeg, Int.reduceSub, Int.reduceAdd]
  refine callH (none_h ep) ?_
  rintro _ H n ⟨rfl, rfl, rfl⟩
  simp only [push_cast, Nat.reduceBEq, Nat.reduceAdd, Nat.reduceEqDiff, reduceCtorEq, Nat.reduceLeDiff, Nat.reduceSub, Nat.reduceMul, Nat.reduceLT, Int.reduceEq, Int.reduceLT, Int.reduceLE, Int.reduceBEq, Int.reduceBNe, Int.reduceToNat, Int.reduceNeg, Int.reduceSub, Int.reduceAdd, ep, pn, hf]
  have ok := h.ok
  obtain ⟨n1, n2, n3⟩ := h.nes
  have hd : (D.pins.map (Ent.me intA intA)).eraseIdx i = (delE D.pins k).map (Ent.me intA intA) := by
    rw [del_old hi, map_erase]
  rw [hd]
  refine ⟨rfl, S, ⟨N, h.pinsTo (last := D.last) (pins := (delE D.pins k, D.pc)) (Nat.le_refl _) (by rw [upd_other (Ne.symm n2)]; exact ep) (upd_same _ _ _) (h.pnOk.del k) (fun j hj h1 h2 => upd_other (Ne.symm h2)) ?_, rfl⟩, Nat.le_refl _, fun j hj hs => ⟨upd_other fun e' => hs (by rw [← e']; exact h.Sp.2.2.1), hs⟩⟩
  exact ⟨ok.cnt, ok.pos, ok.nowB, ok.lastB, fun x hx => ok.pinK x (del_sub x hx), fun x hx => ok.pinV x (del_sub x hx), Nat.le_trans (by show (delE D.pins k).length ≤ D.pins.length; rw [len_del]; split <;> omega) ok.pinN, ok.reg, ok.regN, ok.byteB⟩
theorem pin_full (h : EpH H n S e N D) (hl : 1000 ≤ D.pins.length) :
    HCalls Try.prog 19 [.ptr e 0] H n fun r H' n' => r = .tup [.lit (.int .i64 0), .lit (.int .i64 14)] ∧ n ≤ n' ∧ ∀ j, j < n → H' j = H j := by
  refine hcallsC_of (rs := [.tmp 2, .tmp 3]) ⟨[0, 2, 3, 4, 7], [], [], [(6, [(0, [], []), (1, [], []), (2, [], []), (3, [], []), (4, [], []), (5, [], []), (6, [], []), (7, [], []), (8, [], []), (9, [], []), (10, [], []), (11, [], []), (12, [], [3, 7, 11, 0, 1, 2, 4, 5, 6, 8, 9, 10])])], []⟩ TOk mixed Try.func19 rfl rfl (by kernel_rfl) (by kernel_rfl) rfl ?_
  have ep := h.ep
  have pn := h.pn
  have g1 : (D.pins.length : Int) ≥ 1000 := by omega
  simp only [push_cast, Nat.reduceBEq, Nat.reduceAdd, Nat.reduceEqDiff, reduceCtorEq, Nat.reduceLeDiff, Nat.reduceSub, Nat.reduceMul, Nat.reduceLT, Int.reduceEq, Int.reduceLT, Int.reduceLE, Int.reduceBEq, Int.reduceBNe, Int.reduceToNat, Int.reduceNeg, Int.reduceSub, Int.reduceAdd]
  refine callH (none_h ep) ?_
  rintro _ H n ⟨rfl, rfl, rfl⟩
  simp only [push_cast, Nat.reduceBEq, Nat.reduceAdd, Nat.reduceEqDiff, reduceCtorEq, Nat.reduceLeDiff, Nat.reduceSub, Nat.reduceMul, Nat.reduceLT, Int.reduceEq, Int.reduceLT, Int.reduceLE, Int.reduceBEq, Int.reduceBNe, Int.reduceToNat, Int.reduceNeg, Int.reduceSub, Int.reduceAdd, ep, pn, g1]
  trace_state
theorem pin_c (h : EpH H n S e N D) (hnow : 1 ≤ D.now) (hl : D.pins.length < 1000) (hlast : D.last < 1000000000) :
    HCalls Try.prog 19 [.ptr e 0] H n (EpP H n S e N.p (D.pinned (D.last + 1) (D.pins ++ [⟨((D.last + 1 : Nat) : Int), (D.now : Int), D.pc⟩], D.pc + 1)) (.tup [.lit (.int .i64 ((D.last + 1 : Nat) : Int)), .lit (.int .i64 0)])) := by
  refine hcallsC_of (rs := [.tmp 2, .tmp 3]) ⟨[0, 2, 3, 4, 7], [], [], [(6, [(0, [], []), (1, [], []), (2, [], []), (3, [], []), (4, [], []), (5, [], []), (6, [], []), (7, [], []), (8, [], []), (9, [], []), (10, [], []), (11, [], []), (12, [], [3, 7, 11, 0, 1, 2, 4, 5, 6, 8, 9, 10])])], []⟩ TOk mixed Try.func19 rfl rfl (by kernel_rfl) (by kernel_rfl) rfl ?_
  have ep := h.ep
  have pn := h.pn
  have ok := h.ok
  have hnew : lookE D.pins ((D.last + 1 : Nat) : Int) = none := lookE_none.2 fun x hx hk => by have := (ok.pinK x hx).2; rw [hk] at this; omega
  have hf := mfind_no (vA := intA) keyOk_intA hnew
  simp only [intA, Int.natCast_add, Int.cast_ofNat_Int] at hf
  have g1 : ¬ (D.pins.length : Int) ≥ 1000 := by omega
  have hw := wrap_nat0 (k := D.last) (by omega)
  simp only [push_cast, Nat.reduceBEq, Nat.reduceAdd, Nat.reduceEqDiff, reduceCtorEq, Nat.reduceLeDiff, Nat.reduceSub, Nat.reduceMul, Nat.reduceLT, Int.reduceEq, Int.reduceLT, Int.reduceLE, Int.reduceBEq, Int.reduceBNe, Int.reduceToNat, Int.reduceNeg, Int.reduceSub, Int.reduceAdd]
  refine callH (none_h ep) ?_
  rintro _ H n ⟨rfl, rfl, rfl⟩
  obtain ⟨n1, n2, n3⟩ := h.nes
  have c1 := nb n2
  have c2 := nb (Ne.symm n2)
  simp only [push_cast, Nat.reduceBEq, Nat.reduceAdd, Nat.reduceEqDiff, reduceCtorEq, Nat.reduceLeDiff, Nat.reduceSub, Nat.reduceMul, Nat.reduceLT, Int.reduceEq, Int.reduceLT, Int.reduceLE, Int.reduceBEq, Int.reduceBNe, Int.reduceToNat, Int.reduceNeg, Int.reduceSub, Int.reduceAdd, ep, pn, g1, hw, hf, c1, c2]
  have hpo := h.pnOk.put ((D.last + 1 : Nat) : Int) (D.now : Int)
  rw [put_new _ hnew] at hpo
  have hL := h.pinsTo (last := D.last + 1) (pins := (D.pins ++ [⟨((D.last + 1 : Nat) : Int), (D.now : Int), D.pc⟩], D.pc + 1)) (n' := n) (H' := upd (upd H e (some (.cells [.ptr N.p 0, .lit (.int .i64 (D.now : Int)), .mp N.lv, .mp N.pn, .lit (.int .i64 ((D.last : Int) + 1)), .lit (.bool false)]))) N.pn (some (.map (D.pins.map (Ent.me intA intA) ++ [⟨.lit (.int .i64 ((D.last : Int) + 1)), .lit (.int .i64 (D.now : Int)), D.pc⟩]) (D.pc + 1)))) (Nat.le_refl _)
    (by rw [upd_other (Ne.symm n2), upd_same]; rfl) (by rw [upd_same, List.map_append]; rfl) hpo (fun j hj h1 h2 => by rw [upd_other (Ne.symm h2), upd_other (Ne.symm h1)]) ?_
  · refine ⟨rfl, S, ⟨N, hL, rfl⟩, Nat.le_refl _, fun j hj hs => ⟨?_, hs⟩⟩
    rw [upd_other (fun e' => hs (by rw [← e']; exact h.Sp.2.2.1)), upd_other (fun e' => hs (by rw [← e']; exact h.Sp.1))]
  · refine ⟨ok.cnt, ok.pos, ok.nowB, by show D.last + 1 ≤ _; omega, fun x hx => ?_, fun x hx => ?_, by show (D.pins ++ [_]).length ≤ _; rw [List.length_append]; exact hl, ok.reg, ok.regN, ok.byteB⟩
    · rcases List.mem_append.1 hx with hx | hx
      · have := ok.pinK x hx
        refine ⟨this.1, ?_⟩
        show x.key ≤ ((D.last + 1 : Nat) : Int)
        omega
      · rw [List.mem_singleton.1 hx]
        show 1 ≤ ((D.last + 1 : Nat) : Int) ∧ ((D.last + 1 : Nat) : Int) ≤ ((D.last + 1 : Nat) : Int)
        omega
    · rcases List.mem_append.1 hx with hx | hx
      · exact ok.pinV x hx
      · rw [List.mem_singleton.1 hx]
        show 1 ≤ (D.now : Int) ∧ (D.now : Int) ≤ (D.now : Int)
        omega
end
end Go.Proofs.Ytndojmpgadbefaa
