/- Epochs: bytes are retired; by the walk over a heap. -/
import Derived.Test.YtndojmpgadbefaaEpQ
set_option linter.unusedVariables false
set_option linter.unusedSimpArgs false
namespace Go.Proofs.Ytndojmpgadbefaa
open Go Go.RowKit Hv
set_option maxRecDepth 20000
set_option maxHeartbeats 4000000
theorem alloc_ok {d : PoolD} {i c : Nat} {l : LandD} (hk : PoolOk d) (hl : d.lands[i]? = some l) (ht : l.there = true) :
    (∃ er : Int, (er = 1 ∨ er = 5) ∧ allocD d i l c = (d, hand0, er)) ∨ ∃ (d' : PoolD) (o s : Nat) (l' : LandD), allocD d i l c = (d', handA i l.gen o c, 0) ∧ PieceOk d' i l' o c ∧ l'.gen = l.gen ∧ l'.slabs[o / d'.size]? = some s ∧ d'.size = d.size ∧ d'.lands = d.lands.set i l' ∧
      ((d' = d.filled i l (l.fill + c) ∧ o = l.fill ∧ l' = ⟨l.there, l.gen, l.slabs, l.fill + c⟩) ∨ (firstIdle d.taken = some s ∧ o = l.slabs.length * d.size ∧ d' = (d.grown i l s).filled i ⟨l.there, l.gen, l.slabs ++ [s], 0⟩ (l.slabs.length * d.size + c) ∧ l' = ⟨l.there, l.gen, l.slabs ++ [s], l.slabs.length * d.size + c⟩)) := by
  have hsz := hk.sz
  obtain ⟨o1, o2, o3, o4, _⟩ := hk.ls l (List.mem_of_getElem? hl)
  have hli := (List.getElem?_eq_some_iff.1 hl).1
  by_cases h1 : c < 1 ∨ d.size < c
  · exact .inl ⟨1, .inl rfl, by unfold allocD; rw [if_pos h1]⟩
  · by_cases h2 : l.fill + c ≤ l.slabs.length * d.size
    · have hz : l.slabs.length ≠ 0 := fun e => by rw [e, Nat.zero_mul] at h2; omega
      obtain ⟨m, hm⟩ : ∃ m, l.slabs.length = m + 1 := ⟨l.slabs.length - 1, by omega⟩
      rw [hm] at h2 o4
      have e1 : (m + 1) * d.size = m * d.size + d.size := Nat.succ_mul _ _
      have e2 : m + 1 - 1 = m := by omega
      rw [e2] at o4
      obtain ⟨I, hI⟩ : ∃ I, l.fill = m * d.size + I := ⟨l.fill - m * d.size, by omega⟩
      have hIs : I < d.size := by omega
      have hmod : l.fill % d.size = I := by rw [hI, Nat.mul_comm, Nat.mul_add_mod]; exact Nat.mod_eq_of_lt hIs
      have hdiv : l.fill / d.size = m := by rw [hI, Nat.mul_comm, Nat.mul_add_div (by omega), Nat.div_eq_of_lt hIs, Nat.add_zero]
      obtain ⟨s, hs⟩ : ∃ s, l.slabs[m]? = some s := ⟨_, List.getElem?_eq_getElem (by omega)⟩
      refine .inr ⟨d.filled i l (l.fill + c), l.fill, s, ⟨l.there, l.gen, l.slabs, l.fill + c⟩, ?_, ⟨List.getElem?_set_self hli, ht, by omega, Nat.le_refl _, ?_⟩, rfl, ?_, rfl, rfl, .inl ⟨rfl, rfl, rfl⟩⟩
      · unfold allocD; rw [if_neg h1, if_pos (by rw [hm]; exact h2)]
      · show l.fill % d.size + c ≤ d.size
        rw [hmod]; omega
      · show l.slabs[l.fill / d.size]? = _
        rw [hdiv]; exact hs
    · cases hfi : firstIdle d.taken with
      | none => exact .inl ⟨5, .inr rfl, by unfold allocD; rw [if_neg h1, if_neg h2, hfi]⟩
      | some s =>
        refine .inr ⟨(d.grown i l s).filled i ⟨l.there, l.gen, l.slabs ++ [s], 0⟩ (l.slabs.length * d.size + c), l.slabs.length * d.size, s, ⟨l.there, l.gen, l.slabs ++ [s], l.slabs.length * d.size + c⟩, ?_, ⟨?_, ht, by omega, Nat.le_refl _, ?_⟩, rfl, ?_, rfl, ?_, .inr ⟨rfl, rfl, rfl, rfl⟩⟩
        · unfold allocD; rw [if_neg h1, if_neg h2, hfi]
        · exact List.getElem?_set_self (by show i < (d.lands.set i _).length; rw [List.length_set]; exact hli)
        · show l.slabs.length * d.size % d.size + c ≤ d.size
          rw [Nat.mul_mod_left]; omega
        · show (l.slabs ++ [s])[l.slabs.length * d.size / d.size]? = _
          rw [Nat.mul_div_cancel _ (by omega), List.getElem?_concat_length]
        · show (d.lands.set i _).set i _ = d.lands.set i _
          rw [List.set_set]
/-- Bytes are noted in the last era. -/
def EpD.retired (D : EpD) (pool : PoolD) (k : Nat) (r : EraD) (x : NoteD) : EpD := ⟨pool, D.now, D.last, D.lo, D.eras.set k ⟨r.region, (putE r.notes r.nc x ()).1, (putE r.notes r.nc x ()).2, r.bytes + x.len⟩, D.pins, D.pc⟩
def note0 : AV := .agg [.lit (.int .i64 0), .lit (.int .i64 0), .lit (.int .i64 0), .lit (.int .i64 0), .lit (.int .i64 0)]
section
variable {H H' : Hp} {n n' e : Nat} {S : Nat → Prop} {D : EpD} {N : EpN}
/-- An epoch's entry. -/
theorem EpH.entry (h : EpH H n S e N D) {k : Nat} {r : EraD} (hr : D.eras[k]? = some r) : ∃ x, N.ps[k]? = some x ∧ lookE N.es ((D.lo + k : Nat) : Int) = some x.1 ∧ H x.1 = some (.cells [.lit (.int .i64 (r.region : Int)), .mp x.2, .lit (.int .i64 (r.bytes : Int))]) ∧ H x.2 = some (.map (r.notes.map (Ent.me noteA unitA)) r.nc) ∧ MapOk r.notes r.nc := by
  have hk := (List.getElem?_eq_some_iff.1 hr).1
  obtain ⟨en, hen⟩ : ∃ en, N.es[k]? = some en := ⟨_, List.getElem?_eq_getElem (by rw [h.esl.1]; exact hk)⟩
  obtain ⟨x, hx, h1, h2⟩ := h.es k en hen
  obtain ⟨q1, q2, q3⟩ := h.er k x r hx hr
  refine ⟨x, hx, ?_, q1, q2, q3⟩
  rw [← h1, ← h2]
  exact mem_lookE h.lvOk.keys (List.mem_of_getElem? hen)
/-- The pool is another. -/
def EpD.pooled (D : EpD) (d : PoolD) : EpD := ⟨d, D.now, D.last, D.lo, D.eras, D.pins, D.pc⟩
theorem EpH.pooled (h : EpH H n S e N D) {Sp Sq : Nat → Prop} {d' : PoolD} (p2 : ∀ j, Sp j → S j) (p3 : ¬ Sp e) (p4 : ¬ Sp N.lv) (p5 : ¬ Sp N.pn) (p6 : ∀ x ∈ N.ps, ¬ Sp x.1 ∧ ¬ Sp x.2) (q : Pool H' n' Sq N.p d') (hn : n ≤ n') (k : ∀ j, j < n → ¬ Sp j → H' j = H j ∧ ¬ Sq j) (ok : EpOk (D.pooled d')) :
    EpH H' n' (fun j => S j ∨ Sq j) e N (D.pooled d') := by
  have ks : ∀ j, S j → ¬ Sp j → H' j = H j ∧ ¬ Sq j := fun j hj hs => k j (h.lt j hj) hs
  refine ⟨(ks e h.Sp.1 p3).1.trans h.ep, ⟨Sq, q, fun j hj => .inr hj, (ks e h.Sp.1 p3).2, (ks N.lv h.Sp.2.1 p4).2, (ks N.pn h.Sp.2.2.1 p5).2, fun x hx => ?_⟩, (ks N.lv h.Sp.2.1 p4).1.trans h.lv, h.lvOk, (ks N.pn h.Sp.2.2.1 p5).1.trans h.pn, h.pnOk, fun i x r h1 h2 => ?_, h.esl, h.es, h.nd, ⟨.inl h.Sp.1, .inl h.Sp.2.1, .inl h.Sp.2.2.1, fun x hx => ?_⟩, h.ne, fun j hj => ?_, ok⟩
  · obtain ⟨s1, s2⟩ := h.Sp.2.2.2 x hx
    exact ⟨(ks _ s1 (p6 x hx).1).2, (ks _ s2 (p6 x hx).2).2⟩
  · have hx := List.mem_of_getElem? h1
    obtain ⟨s1, s2⟩ := h.Sp.2.2.2 x hx
    obtain ⟨a1, a2, a3⟩ := h.er i x r h1 h2
    exact ⟨(ks _ s1 (p6 x hx).1).1.trans a1, (ks _ s2 (p6 x hx).2).1.trans a2, a3⟩
  · obtain ⟨s1, s2⟩ := h.Sp.2.2.2 x hx
    exact ⟨.inl s1, .inl s2⟩
  · rcases hj with hj | hj
    · exact Nat.lt_of_lt_of_le (h.lt j hj) hn
    · exact q.lt j hj
theorem EpOk.landed {D : EpD} (ok : EpOk D) {d' : PoolD} {i : Nat} {l' : LandD} (hls : d'.lands = D.pool.lands.set i l') (ht : l'.there = true) : EpOk (D.pooled d') := by
  refine ⟨ok.cnt, ok.pos, ok.nowB, ok.lastB, ok.pinK, ok.pinV, ok.pinN, fun r hr => ?_, ok.regN, ok.byteB⟩
  obtain ⟨l, h1, h2⟩ := ok.reg r hr
  show ∃ l2, d'.lands[r.region]? = some l2 ∧ _
  rw [hls]
  by_cases hi : r.region = i
  · rw [hi] at h1 ⊢
    exact ⟨l', List.getElem?_set_self (List.getElem?_eq_some_iff.1 h1).1, ht⟩
  · exact ⟨l, by rw [List.getElem?_set_ne (Ne.symm hi)]; exact h1, h2⟩
/-- An era is another. -/
def EpD.eraSet (D : EpD) (k : Nat) (r : EraD) : EpD := ⟨D.pool, D.now, D.last, D.lo, D.eras.set k r, D.pins, D.pc⟩
theorem map_set_same {α β : Type} (f : α → β) : ∀ {l : List α} {k : Nat} {a b : α}, l[k]? = some a → f b = f a → (l.set k b).map f = l.map f
  | x :: l, 0, a, b, h, e => by simp at h; subst h; rw [List.set_cons_zero, List.map_cons, List.map_cons, e]
  | x :: l, k + 1, a, b, h, e => by rw [List.set_cons_succ, List.map_cons, List.map_cons, map_set_same f (by simpa using h) e]
  | [], _, _, _, h, _ => by simp at h
theorem set_nil {α : Type} {l : List α} {k : Nat} {a : α} (h : l.set k a = []) : l = [] := by
  have : (l.set k a).length = 0 := by rw [h]; rfl
  rw [List.length_set] at this
  exact List.length_eq_zero_iff.1 this
theorem EpOk.eraSet {D : EpD} (ok : EpOk D) {k : Nat} {r r' : EraD} (hr : D.eras[k]? = some r) (he : r'.region = r.region) (hb : r'.bytes ≤ 1000000000) : EpOk (D.eraSet k r') := by
  refine ⟨by show D.lo + (D.eras.set k r').length = _; rw [List.length_set]; exact ok.cnt, ⟨ok.pos.1, ok.pos.2.imp id fun h0 e => h0 (set_nil e)⟩, ok.nowB, ok.lastB, ok.pinK, ok.pinV, ok.pinN, fun x hx => ?_, by show ((D.eras.set k r').map _).Nodup; rw [map_set_same _ hr he]; exact ok.regN, fun x hx => ?_⟩
  · rcases List.mem_or_eq_of_mem_set hx with hx | rfl
    · exact ok.reg x hx
    · rw [he]; exact ok.reg r (List.mem_of_getElem? hr)
  · rcases List.mem_or_eq_of_mem_set hx with hx | rfl
    · exact ok.byteB x hx
    · exact hb
theorem nodup_at {l : List Nat} (h : l.Nodup) {i j : Nat} {a : Nat} (hi : l[i]? = some a) (hj : l[j]? = some a) : i = j :=
  (List.getElem?_inj (List.getElem?_eq_some_iff.1 hi).1 h).1 (hi.trans hj.symm)
theorem EpH.eraTo (h : EpH H n S e N D) {k : Nat} {r r' : EraD} {x : Nat × Nat} (hr : D.eras[k]? = some r) (hx : N.ps[k]? = some x) (hn : n ≤ n')
    (h1 : H' x.1 = some (.cells [.lit (.int .i64 (r'.region : Int)), .mp x.2, .lit (.int .i64 (r'.bytes : Int))])) (h2 : H' x.2 = some (.map (r'.notes.map (Ent.me noteA unitA)) r'.nc)) (h3 : MapOk r'.notes r'.nc)
    (hh : ∀ j, S j → j ≠ x.1 → j ≠ x.2 → H' j = H j) (ok : EpOk (D.eraSet k r')) : EpH H' n' S e N (D.eraSet k r') := by
  obtain ⟨Sp, p1, p2, p3, p4, p5, p6⟩ := h.pool
  obtain ⟨n1, n2, n3⟩ := h.nes
  have hxm := List.mem_of_getElem? hx
  obtain ⟨m1, m2, m3, m4⟩ := n3 x hxm
  obtain ⟨m5, m6⟩ := h.ne.2 x hxm
  have hkl := (List.getElem?_eq_some_iff.1 hr).1
  refine ⟨(hh e h.Sp.1 (Ne.symm m1) (Ne.symm m4)).trans h.ep, ⟨Sp, p1.frame hn fun j hj => hh j (p2 j hj) (fun y => (p6 x hxm).1 (y ▸ hj)) (fun y => (p6 x hxm).2 (y ▸ hj)), p2, p3, p4, p5, p6⟩, (hh _ h.Sp.2.1 (Ne.symm m2) (Ne.symm m5)).trans h.lv, h.lvOk, (hh _ h.Sp.2.2.1 (Ne.symm m3) (Ne.symm m6)).trans h.pn, h.pnOk, fun i y q a1 a2 => ?_, by show N.es.length = (D.eras.set k r').length ∧ N.ps.length = (D.eras.set k r').length; rw [List.length_set]; exact h.esl, h.es, h.nd, h.Sp, h.ne, fun j hj => Nat.lt_of_lt_of_le (h.lt j hj) hn, ok⟩
  by_cases hi : i = k
  · subst hi
    rw [hx] at a1
    rw [show (D.eraSet i r').eras[i]? = some r' from List.getElem?_set_self hkl] at a2
    injection a1 with a1
    injection a2 with a2
    subst a1 a2
    exact ⟨h1, h2, h3⟩
  · rw [show (D.eraSet k r').eras[i]? = D.eras[i]? from List.getElem?_set_ne (Ne.symm hi)] at a2
    obtain ⟨b1, b2, b3⟩ := h.er i y q a1 a2
    obtain ⟨c1, c2, _⟩ := h.er k x r hx hr
    obtain ⟨s1, s2⟩ := h.Sp.2.2.2 y (List.mem_of_getElem? a1)
    have e1 : y.1 ≠ x.1 := fun e' => hi (nodup_at h.nd.1 (i := i) (j := k) (a := y.1) (by rw [List.getElem?_map, a1]; rfl) (by rw [List.getElem?_map, hx, e']; rfl))
    have e2 : y.2 ≠ x.2 := fun e' => hi (nodup_at h.nd.2 (i := i) (j := k) (a := y.2) (by rw [List.getElem?_map, a1]; rfl) (by rw [List.getElem?_map, hx, e']; rfl))
    exact ⟨(hh _ s1 e1 (heap_ne b1 c2 (by intro e; cases e))).trans b1, (hh _ s2 (heap_ne b2 c1 (by intro e; cases e)) e2).trans b2, b3⟩
theorem retire_bad (h : EpH H n S e N D) {k g : Nat} {r : EraD} {l : LandD} {b : List UInt8} {er : Int} (hk : D.lo + k = D.now) (hr : D.eras[k]? = some r) (hl : D.pool.lands[r.region]? = some l) (hll : l.slabs.length < 4096) (hb : b.length ≤ 140737488355328)
    (he : er = 1 ∨ er = 5) (ha : allocD D.pool r.region l b.length = (D.pool, hand0, er)) :
    HCalls Try.prog 22 [.ptr e 0, .rw g 1 0 b.length] H n (EpP H n S e N.p D (.tup [note0, .lit (.int .i64 er)])) := by
  refine hcallsC_of (rs := [.cell 4 51, .tmp 5]) ⟨[0, 1, 4, 5, 6, 7, 8, 9, 11, 37, 46], [], [], [(3, [(0, [], []), (1, [], []), (2, [], []), (3, [], []), (4, [], []), (5, [], []), (6, [], []), (7, [], []), (8, [], []), (9, [], [8, 0, 1, 2, 3, 4, 5, 6, 7])]), (4, [(0, [], []), (1, [], []), (2, [], []), (3, [], []), (4, [], []), (5, [], []), (6, [], []), (7, [], []), (8, [], []), (9, [], []), (10, [], [3, 7, 9, 2, 6, 8, 1, 5, 0, 4]), (11, [], []), (12, [], []), (13, [], []), (14, [3, 7, 9], []), (15, [], [14, 12, 10, 0, 1, 2, 3, 4, 5, 6, 7, 8, 9, 11]), (16, [], [13, 15, 0, 1, 2, 3, 4, 5, 6, 7, 8, 9, 10, 11, 12, 14])]), (6, [(0, [], []), (1, [], []), (2, [], []), (3, [], []), (4, [], []), (5, [], []), (6, [], [3, 4, 5, 2, 1, 0]), (7, [], [6, 0, 1, 2, 3, 4, 5])]), (9, [(0, [], []), (1, [], []), (2, [], []), (3, [], []), (4, [], []), (5, [], []), (6, [3, 4], []), (7, [], [6, 5, 0, 1, 2, 3, 4])]), (10, [(0, [], []), (1, [], []), (2, [], []), (3, [], []), (4, [], []), (5, [], []), (6, [], [3, 4, 5, 0, 1, 2])])], []⟩ TOk mixed Try.func22 rfl rfl (by kernel_rfl) (by kernel_rfl) rfl ?_
  have hen := h.lt e h.Sp.1
  have hln := h.lt N.lv h.Sp.2.1
  have hex := h.entry hr
  rw [hk] at hex
  obtain ⟨x, hx, hlk, hx1, hx2, hx3⟩ := hex
  have hxn := h.lt _ (h.Sp.2.2.2 x (List.mem_of_getElem? hx)).1
  obtain ⟨Sp, ⟨PN, p1⟩, p2, p3, p4, p5, p6⟩ := h.pool
  obtain ⟨l', hl', ht⟩ := h.ok.reg r (List.mem_of_getElem? hr)
  rw [hl] at hl'
  injection hl' with hl'
  subst hl'
  obtain ⟨j, y, g1, g2, g3, g4, hf⟩ := mfind_yes (vA := ptrA) keyOk_intA hlk
  simp only [intA, ptrA] at hf
  simp only [push_cast, Nat.reduceBEq, Nat.reduceAdd, Nat.reduceEqDiff, reduceCtorEq, Nat.reduceLeDiff, Nat.reduceSub, Nat.reduceMul, Nat.reduceLT, Int.reduceEq, Int.reduceLT, Int.reduceLE, Int.reduceBEq, Int.reduceBNe, Int.reduceToNat, Int.reduceNeg, Int.reduceSub, Int.reduceAdd]
  have h1 := h.frame (H' := (upd H n (some (.cells [.lit (.int .i64 0), .lit (.int .i64 0), .lit (.int .i64 0), .lit (.int .i64 0), .lit (.int .i64 0)])))) (n' := n + 1) (by omega) fun j hj => upd_other (by have := h.lt j hj; omega)
  have pl1 := p1.frame (H' := (upd H n (some (.cells [.lit (.int .i64 0), .lit (.int .i64 0), .lit (.int .i64 0), .lit (.int .i64 0), .lit (.int .i64 0)])))) (n' := n + 1) (by omega) fun j hj => upd_other (by have := p1.lt j hj; omega)
  have hv1 : (upd H n (some (.cells [.lit (.int .i64 0), .lit (.int .i64 0), .lit (.int .i64 0), .lit (.int .i64 0), .lit (.int .i64 0)]))) n = some (.cells [.lit (.int .i64 0), .lit (.int .i64 0), .lit (.int .i64 0), .lit (.int .i64 0), .lit (.int .i64 0)]) := upd_same _ _ _
  have hxx : (upd H n (some (.cells [.lit (.int .i64 0), .lit (.int .i64 0), .lit (.int .i64 0), .lit (.int .i64 0), .lit (.int .i64 0)]))) x.1 = _ := (upd_other (by omega)).trans hx1
  have k1 : ∀ j, j < n → (upd H n (some (.cells [.lit (.int .i64 0), .lit (.int .i64 0), .lit (.int .i64 0), .lit (.int .i64 0), .lit (.int .i64 0)]))) j = H j := fun j hj => upd_other (by omega)
  generalize (upd H n (some (.cells [.lit (.int .i64 0), .lit (.int .i64 0), .lit (.int .i64 0), .lit (.int .i64 0), .lit (.int .i64 0)]))) = H1 at h1 pl1 hv1 hxx k1 ⊢
  have ep1 := h1.ep
  have lv1 := h1.lv
  refine callH (none_h ep1) ?_
  rintro _ H2 n2 ⟨hr, hH, hn⟩
  rw [hr, hH, hn]
  simp only [push_cast, Nat.reduceBEq, Nat.reduceAdd, Nat.reduceEqDiff, reduceCtorEq, Nat.reduceLeDiff, Nat.reduceSub, Nat.reduceMul, Nat.reduceLT, Int.reduceEq, Int.reduceLT, Int.reduceLE, Int.reduceBEq, Int.reduceBNe, Int.reduceToNat, Int.reduceNeg, Int.reduceSub, Int.reduceAdd, ep1, lv1, hxx, hf, g2, g4]
  refine callHD (alloc_c pl1 hl ht hll (by omega)) ?_
  rw [ha]
  dsimp only
  rintro _ H3 n3 ⟨rfl, Sq, q1, hn3, k3⟩
  have kk : ∀ j, j < n + 1 → ¬ Sp j → H3 j = H1 j := fun j hj hs => (k3 j hj hs).1
  have hnS : ¬ Sp n := fun hs => by have := p1.lt _ hs; omega
  have hv3 : H3 n = _ := (kk n (by omega) hnS).trans hv1
  have ep3 : H3 e = _ := (kk e (by omega) p3).trans ep1
  have hx3' : H3 x.1 = _ := (kk x.1 (by omega) (p6 x (List.mem_of_getElem? hx)).1).trans hxx
  have d1 : (n3 == n) = false := nb (by omega)
  have d2 : (n == n3) = false := nb (by omega)
  have her : (er == 0) = false := by rcases he with rfl | rfl <;> rfl
  have her2 : (er != 0) = true := by rcases he with rfl | rfl <;> rfl
  have her3 : ¬ er = 0 := by rcases he with rfl | rfl <;> decide
  have d3 : (n3 == e) = false := nb (by omega)
  have d4 : (n3 == x.1) = false := nb (by omega)
  unfold hand0
  rw [Hv.contD_at]
  refine ⟨by simp only [push_cast, Nat.reduceBEq, Nat.reduceAdd, Nat.reduceEqDiff, reduceCtorEq, Nat.reduceLeDiff, Nat.reduceSub, Nat.reduceMul, Nat.reduceLT, Int.reduceEq, Int.reduceLT, Int.reduceLE, Int.reduceBEq, Int.reduceBNe, Int.reduceToNat, Int.reduceNeg, Int.reduceSub, Int.reduceAdd, hv3], ?_⟩
  simp only [push_cast, Nat.reduceBEq, Nat.reduceAdd, Nat.reduceEqDiff, reduceCtorEq, Nat.reduceLeDiff, Nat.reduceSub, Nat.reduceMul, Nat.reduceLT, Int.reduceEq, Int.reduceLT, Int.reduceLE, Int.reduceBEq, Int.reduceBNe, Int.reduceToNat, Int.reduceNeg, Int.reduceSub, Int.reduceAdd, hv3, ep3, hx3', d1, d2, d3, d4, her, her2, her3]
  have hSn : ¬ Sq n := (k3 n (by omega) hnS).2
  have kf : ∀ (o1 o2 o3 : Option AO) (j : Nat), j < n → upd (upd (upd H3 n3 o1) n3 o2) n o3 j = H3 j := fun o1 o2 o3 j hj => by rw [upd_other (by omega), upd_other (by omega), upd_other (by omega)]
  refine ⟨rfl, fun j => S j ∨ Sq j, ⟨N, h.pooled (d' := D.pool) p2 p3 p4 p5 p6 (q1.frame (by omega) fun j hj => ?_) (by omega) (fun j hj hs => ⟨?_, (k3 j (by omega) hs).2⟩) h.ok, rfl⟩, by omega, fun j hj hs => ⟨?_, ?_⟩⟩
  · have := q1.lt j hj
    rw [upd_other (fun x => hSn (by rw [x]; exact hj)), upd_other (by omega), upd_other (by omega)]
  · rw [kf _ _ _ j hj, kk j (by omega) hs, k1 j hj]
  · rw [kf _ _ _ j hj, kk j (by omega) (fun x => hs (p2 j x)), k1 j hj]
  · rintro (x | x)
    · exact hs x
    · exact (k3 j (by omega) (fun x => hs (p2 j x))).2 x
theorem retire_c (h : EpH H n S e N D) {k g : Nat} {r : EraD} {l : LandD} {b : List UInt8} {d' : PoolD} {o s0 : Nat} {l' : LandD} (hk : D.lo + k = D.now) (hr : D.eras[k]? = some r) (hl : D.pool.lands[r.region]? = some l) (hll : l.slabs.length < 4096) (hb : b.length ≤ 1000000)
    (ha : allocD D.pool r.region l b.length = (d', handA r.region l.gen o b.length, 0)) (hpk : PieceOk d' r.region l' o b.length) (hgen : l'.gen = l.gen) (hs0 : l'.slabs[o / d'.size]? = some s0) (hls : d'.lands = D.pool.lands.set r.region l')
    {m0 : Bool} {e0 : Nat} (hrow : H g = some (.row m0 e0 (b.map byteA))) (hgn : g < n) (hgS : ¬ S g) (hnew : lookE r.notes ⟨D.now, r.region, l.gen, o, b.length⟩ = none) (hbb : r.bytes + b.length ≤ 1000000000) :
    HCalls Try.prog 22 [.ptr e 0, .rw g 1 0 b.length] H n (EpP H n S e N.p (D.retired (d'.stored s0 (o % d'.size) b) k r ⟨D.now, r.region, l.gen, o, b.length⟩) (.tup [noteA ⟨D.now, r.region, l.gen, o, b.length⟩, .lit (.int .i64 0)])) := by
  refine hcallsC_of (rs := [.cell 4 51, .tmp 5]) ⟨[0, 1, 4, 5, 6, 7, 8, 9, 11, 37, 46], [], [], [(3, [(0, [], []), (1, [], []), (2, [], []), (3, [], []), (4, [], []), (5, [], []), (6, [], []), (7, [], []), (8, [], []), (9, [], [8, 0, 1, 2, 3, 4, 5, 6, 7])]), (4, [(0, [], []), (1, [], []), (2, [], []), (3, [], []), (4, [], []), (5, [], []), (6, [], []), (7, [], []), (8, [], []), (9, [], []), (10, [], [3, 7, 9, 2, 6, 8, 1, 5, 0, 4]), (11, [], []), (12, [], []), (13, [], []), (14, [3, 7, 9], []), (15, [], [14, 12, 10, 0, 1, 2, 3, 4, 5, 6, 7, 8, 9, 11]), (16, [], [13, 15, 0, 1, 2, 3, 4, 5, 6, 7, 8, 9, 10, 11, 12, 14])]), (6, [(0, [], []), (1, [], []), (2, [], []), (3, [], []), (4, [], []), (5, [], []), (6, [], [3, 4, 5, 2, 1, 0]), (7, [], [6, 0, 1, 2, 3, 4, 5])]), (9, [(0, [], []), (1, [], []), (2, [], []), (3, [], []), (4, [], []), (5, [], []), (6, [3, 4], []), (7, [], [6, 5, 0, 1, 2, 3, 4])]), (10, [(0, [], []), (1, [], []), (2, [], []), (3, [], []), (4, [], []), (5, [], []), (6, [], [3, 4, 5, 0, 1, 2])])], []⟩ TOk mixed Try.func22 rfl rfl (by kernel_rfl) (by kernel_rfl) rfl ?_
  have hen := h.lt e h.Sp.1
  have hln := h.lt N.lv h.Sp.2.1
  have hrk := hr
  have hex := h.entry hr
  rw [hk] at hex
  obtain ⟨x, hx, hlk, hx1, hx2, hx3⟩ := hex
  have hxn := h.lt _ (h.Sp.2.2.2 x (List.mem_of_getElem? hx)).1
  obtain ⟨Sp, ⟨PN, p1⟩, p2, p3, p4, p5, p6⟩ := h.pool
  obtain ⟨l2, hl', ht⟩ := h.ok.reg r (List.mem_of_getElem? hr)
  rw [hl] at hl'
  injection hl' with hl'
  subst hl'
  obtain ⟨j, y, g1, g2, g3, g4, hf⟩ := mfind_yes (vA := ptrA) keyOk_intA hlk
  simp only [intA, ptrA] at hf
  simp only [push_cast, Nat.reduceBEq, Nat.reduceAdd, Nat.reduceEqDiff, reduceCtorEq, Nat.reduceLeDiff, Nat.reduceSub, Nat.reduceMul, Nat.reduceLT, Int.reduceEq, Int.reduceLT, Int.reduceLE, Int.reduceBEq, Int.reduceBNe, Int.reduceToNat, Int.reduceNeg, Int.reduceSub, Int.reduceAdd]
  have h1 := h.frame (H' := (upd H n (some (.cells [.lit (.int .i64 0), .lit (.int .i64 0), .lit (.int .i64 0), .lit (.int .i64 0), .lit (.int .i64 0)])))) (n' := n + 1) (by omega) fun j hj => upd_other (by have := h.lt j hj; omega)
  have pl1 := p1.frame (H' := (upd H n (some (.cells [.lit (.int .i64 0), .lit (.int .i64 0), .lit (.int .i64 0), .lit (.int .i64 0), .lit (.int .i64 0)])))) (n' := n + 1) (by omega) fun j hj => upd_other (by have := p1.lt j hj; omega)
  have hv1 : (upd H n (some (.cells [.lit (.int .i64 0), .lit (.int .i64 0), .lit (.int .i64 0), .lit (.int .i64 0), .lit (.int .i64 0)]))) n = some (.cells [.lit (.int .i64 0), .lit (.int .i64 0), .lit (.int .i64 0), .lit (.int .i64 0), .lit (.int .i64 0)]) := upd_same _ _ _
  have hxx : (upd H n (some (.cells [.lit (.int .i64 0), .lit (.int .i64 0), .lit (.int .i64 0), .lit (.int .i64 0), .lit (.int .i64 0)]))) x.1 = _ := (upd_other (by omega)).trans hx1
  have k1 : ∀ j, j < n → (upd H n (some (.cells [.lit (.int .i64 0), .lit (.int .i64 0), .lit (.int .i64 0), .lit (.int .i64 0), .lit (.int .i64 0)]))) j = H j := fun j hj => upd_other (by omega)
  generalize (upd H n (some (.cells [.lit (.int .i64 0), .lit (.int .i64 0), .lit (.int .i64 0), .lit (.int .i64 0), .lit (.int .i64 0)]))) = H1 at h1 pl1 hv1 hxx k1 ⊢
  have ep1 := h1.ep
  have lv1 := h1.lv
  refine callH (none_h ep1) ?_
  rintro _ H2 n2 ⟨hr, hH, hn⟩
  rw [hr, hH, hn]
  simp only [push_cast, Nat.reduceBEq, Nat.reduceAdd, Nat.reduceEqDiff, reduceCtorEq, Nat.reduceLeDiff, Nat.reduceSub, Nat.reduceMul, Nat.reduceLT, Int.reduceEq, Int.reduceLT, Int.reduceLE, Int.reduceBEq, Int.reduceBNe, Int.reduceToNat, Int.reduceNeg, Int.reduceSub, Int.reduceAdd, ep1, lv1, hxx, hf, g2, g4]
  refine callHD (alloc_c pl1 hl ht hll (by omega)) ?_
  rw [ha]
  dsimp only
  rintro _ H3 n3 ⟨rfl, Sq, ⟨PN3, q1⟩, hn3, k3⟩
  have kk : ∀ j, j < n + 1 → ¬ Sp j → H3 j = H1 j := fun j hj hs => (k3 j hj hs).1
  have hnS : ¬ Sp n := fun hs => by have := p1.lt _ hs; omega
  have hv3 : H3 n = _ := (kk n (by omega) hnS).trans hv1
  have ep3 : H3 e = _ := (kk e (by omega) p3).trans ep1
  have hx3' : H3 x.1 = _ := (kk x.1 (by omega) (p6 x (List.mem_of_getElem? hx)).1).trans hxx
  have hgSp : ¬ Sp g := fun y => hgS (p2 g y)
  have hg3 : H3 g = _ := (kk g (by omega) hgSp).trans ((k1 g hgn).trans hrow)
  have hSn : ¬ Sq n := (k3 n (by omega) hnS).2
  have d1 : (n3 == n) = false := nb (by omega)
  have d2 : (n == n3) = false := nb (by omega)
  have d3 : (n3 == e) = false := nb (by omega)
  have d4 : (n3 == x.1) = false := nb (by omega)
  unfold handA
  rw [Hv.contD_at]
  refine ⟨by simp only [push_cast, Nat.reduceBEq, Nat.reduceAdd, Nat.reduceEqDiff, reduceCtorEq, Nat.reduceLeDiff, Nat.reduceSub, Nat.reduceMul, Nat.reduceLT, Int.reduceEq, Int.reduceLT, Int.reduceLE, Int.reduceBEq, Int.reduceBNe, Int.reduceToNat, Int.reduceNeg, Int.reduceSub, Int.reduceAdd, hv3], ?_⟩
  simp only [push_cast, Nat.reduceBEq, Nat.reduceAdd, Nat.reduceEqDiff, reduceCtorEq, Nat.reduceLeDiff, Nat.reduceSub, Nat.reduceMul, Nat.reduceLT, Int.reduceEq, Int.reduceLT, Int.reduceLE, Int.reduceBEq, Int.reduceBNe, Int.reduceToNat, Int.reduceNeg, Int.reduceSub, Int.reduceAdd, hv3, ep3, hx3', d1, d2, d3, d4]
  have kH : ∀ (o1 o2 : Option AO) (j : Nat), j < n3 → upd (upd H3 n3 o1) n3 o2 j = H3 j := fun o1 o2 j hj => by rw [upd_other (by omega), upd_other (by omega)]
  have hst := fun o1 o2 => store_c (n := n3 + 1) (g := g) (q1.frame (H' := upd (upd H3 n3 o1) n3 o2) (n' := n3 + 1) (by omega) fun j hj => kH o1 o2 j (q1.lt j hj)) hpk hs0 (m0 := m0) (e0 := e0) ((kH o1 o2 g (by omega)).trans hg3) (by omega) ((k3 g (by omega) hgSp).2) hb
  rw [hgen] at hst
  unfold handA at hst
  refine callHD (hst _ _) ?_
  rintro _ H5 n5 ⟨rfl, Su, ⟨PN5, u1⟩, hn5, k5⟩
  have hxm := List.mem_of_getElem? hx
  have hxn2 := h.lt _ (h.Sp.2.2.2 x hxm).2
  have nSq : ∀ j, j < n + 1 → ¬ Sp j → ¬ Sq j := fun j hj hs => (k3 j hj hs).2
  have k7 : ∀ j, j < n + 1 → ¬ Sp j → H5 j = H1 j ∧ ¬ Su j := fun j hj hs => ⟨(k5 j (by omega) (nSq j hj hs)).1.trans ((kH _ _ j (by omega)).trans (kk j hj hs)), (k5 j (by omega) (nSq j hj hs)).2⟩
  have ep5 : H5 e = _ := (k7 e (by omega) p3).1.trans ep1
  have hx5 : H5 x.1 = _ := (k7 x.1 (by omega) (p6 x hxm).1).1.trans hxx
  have hy5 : H5 x.2 = _ := (k7 x.2 (by omega) (p6 x hxm).2).1.trans ((k1 x.2 hxn2).trans hx2)
  have hv5 : H5 n = _ := (k7 n (by omega) hnS).1.trans hv1
  have hSn3 : ¬ Sq n3 := fun y => by have := q1.lt _ y; omega
  have hn5' : H5 n3 = some (.cells [.lit (.int .i64 (r.region : Int)), .lit (.int .i64 (l.gen : Int)), .lit (.int .i64 (o : Int)), .lit (.int .i64 (b.length : Int))]) := (k5 n3 (by omega) hSn3).1.trans (upd_same _ _ _)
  have hf2 := mfind_no (vA := unitA) keyOk_note hnew
  simp only [noteA] at hf2
  have hw2 : IntKind.i64.wrap ((r.bytes : Int) + (b.length : Int)) = (r.bytes : Int) + (b.length : Int) := IntWalk.i64_in _ (by omega)
  have m12 : x.1 ≠ x.2 := heap_ne hx1 hx2 (by intro e; cases e)
  obtain ⟨_, _, nn3⟩ := h.nes
  obtain ⟨z1, z2, z3, z4⟩ := nn3 x hxm
  have f1 : (n5 == n) = false := nb (by omega)
  have f2 : (n5 == n3) = false := nb (by omega)
  have f3 : (n5 == e) = false := nb (by omega)
  have f4 : (n5 == x.1) = false := nb (by omega)
  have f5 : (n5 == x.2) = false := nb (by omega)
  have f6 : (x.2 == x.1) = false := nb (Ne.symm m12)
  have f7 : (x.1 == x.2) = false := nb m12
  have f8 : (x.2 == n5) = false := nb (by omega)
  have f9 : (x.1 == n5) = false := nb (by omega)
  have f10 : (x.2 == n) = false := nb (by omega)
  have f11 : (x.1 == n) = false := nb (by omega)
  rw [Hv.contD_at]
  refine ⟨by simp only [push_cast, Nat.reduceBEq, Nat.reduceAdd, Nat.reduceEqDiff, reduceCtorEq, Nat.reduceLeDiff, Nat.reduceSub, Nat.reduceMul, Nat.reduceLT, Int.reduceEq, Int.reduceLT, Int.reduceLE, Int.reduceBEq, Int.reduceBNe, Int.reduceToNat, Int.reduceNeg, Int.reduceSub, Int.reduceAdd, ep5, hn5'], ?_⟩
  simp only [push_cast, Nat.reduceBEq, Nat.reduceAdd, Nat.reduceEqDiff, reduceCtorEq, Nat.reduceLeDiff, Nat.reduceSub, Nat.reduceMul, Nat.reduceLT, Int.reduceEq, Int.reduceLT, Int.reduceLE, Int.reduceBEq, Int.reduceBNe, Int.reduceToNat, Int.reduceNeg, Int.reduceSub, Int.reduceAdd, ep5, hx5, hy5, hv5, hn5', hf2, hw2, f1, f2, f3, f4, f5, f6, f7, f8, f9, f10, f11]
  have hP := h.pooled (d' := d'.stored s0 (o % d'.size) b) (H' := H5) (n' := n5) (Sq := Su) p2 p3 p4 p5 p6 ⟨PN5, u1⟩ (by omega) (fun j hj hs => ⟨(k7 j (by omega) hs).1.trans (k1 j hj), (k7 j (by omega) hs).2⟩) (h.ok.landed hls hpk.there)
  have hSun : ¬ Su n := (k7 n (by omega) hnS).2
  have hpo := hx3.put ⟨D.now, r.region, l.gen, o, b.length⟩ ()
  have hres : D.retired (d'.stored s0 (o % d'.size) b) k r ⟨D.now, r.region, l.gen, o, b.length⟩ = (D.pooled (d'.stored s0 (o % d'.size) b)).eraSet k ⟨r.region, (putE r.notes r.nc ⟨D.now, r.region, l.gen, o, b.length⟩ ()).1, (putE r.notes r.nc ⟨D.now, r.region, l.gen, o, b.length⟩ ()).2, r.bytes + b.length⟩ := rfl
  rw [hres]
  have kf : ∀ (o1 o2 o3 o4 o5 : Option AO) (j : Nat), (j < n ∨ (j < n5 ∧ j ≠ n)) → j ≠ x.1 → j ≠ x.2 → upd (upd (upd (upd (upd H5 n5 o1) n5 o2) x.2 o3) x.1 o4) n o5 j = H5 j := fun o1 o2 o3 o4 o5 j hj h1 h2 => by
    rw [upd_other (by omega), upd_other (Ne.symm h1), upd_other (Ne.symm h2), upd_other (by omega), upd_other (by omega)]
  refine ⟨rfl, fun j => S j ∨ Su j, ⟨N, hP.eraTo (k := k) (r := r) (x := x) hrk hx (by omega) ?_ ?_ hpo (fun j hj h1 h2 => ?_) ((h.ok.landed (d' := d'.stored s0 (o % d'.size) b) hls hpk.there).eraSet (r' := ⟨r.region, (putE r.notes r.nc ⟨D.now, r.region, l.gen, o, b.length⟩ ()).1, (putE r.notes r.nc ⟨D.now, r.region, l.gen, o, b.length⟩ ()).2, r.bytes + b.length⟩) hrk rfl hbb), rfl⟩, by omega, fun j hj hs => ⟨?_, ?_⟩⟩
  · rw [upd_other (by omega), upd_same]; rfl
  · rw [upd_other (by omega), upd_other m12, upd_same, put_new _ hnew, List.map_append]; rfl
  · refine kf _ _ _ _ _ j ?_ h1 h2
    rcases hj with hj | hj
    · exact .inl (h.lt j hj)
    · exact .inr ⟨u1.lt j hj, fun y => hSun (y ▸ hj)⟩
  · have hsx := h.Sp.2.2.2 x hxm
    rw [kf _ _ _ _ _ j (.inl hj) (fun y => hs (y ▸ hsx.1)) (fun y => hs (y ▸ hsx.2))]
    exact (k7 j (by omega) (fun y => hs (p2 j y))).1.trans (k1 j hj)
  · rintro (y | y)
    · exact hs y
    · exact (k7 j (by omega) (fun y => hs (p2 j y))).2 y
end
end Go.Proofs.Ytndojmpgadbefaa
