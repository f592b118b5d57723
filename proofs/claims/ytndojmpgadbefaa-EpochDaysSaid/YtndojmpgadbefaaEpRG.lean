/- The reference's epochs: which live, retiring, loading. -/
import Derived.Test.YtndojmpgadbefaaEpRE
set_option linter.unusedVariables false
set_option linter.unusedSimpArgs false
namespace Go.Proofs.Ytndojmpgadbefaa
open Go Go.RowKit Hv
set_option maxRecDepth 20000
set_option maxHeartbeats 4000000
def liveN (lo m : Nat) : List Int := (List.range m).map fun i => ((lo + i : Nat) : Int)
theorem liveN_succ (lo m : Nat) : liveN lo (m + 1) = liveN lo m ++ [((lo + m : Nat) : Int)] := by unfold liveN; rw [List.range_succ, List.map_append]; rfl
theorem liveN_len (lo m : Nat) : (liveN lo m).length = m := by unfold liveN; rw [List.length_map, List.length_range]
def keptN (D : EpD) (m : Nat) : Nat := ((D.eras.take m).map (·.bytes)).sum
theorem keptN_succ {D : EpD} {m : Nat} {r : EraD} (h : D.eras[m]? = some r) : keptN D (m + 1) = keptN D m + r.bytes := by
  unfold keptN
  rw [List.take_add_one, h, List.map_append, List.sum_append]
  simp
theorem keptN_le {D : EpD} : ∀ m, keptN D m ≤ D.kept := fun m => by
  unfold keptN EpD.kept
  have : (D.eras.map (·.bytes)).sum = ((D.eras.take m).map (·.bytes)).sum + ((D.eras.drop m).map (·.bytes)).sum := by
    rw [← List.sum_append, ← List.map_append, List.take_append_drop]
  omega
section
variable {H H' : Hp} {n n' w p : Nat} {S : Nat → Prop} {d : PoolD} {N : REN} {D : EpD} {E : List EraE} {P : List Int} {X : List NoteD}
theorem rlive_c (h : REM H n S w p N d E P X) (hr : RefP D E P X) (hcnt : D.lo + D.eras.length = D.now + 1) (hlo : 1 ≤ D.lo) (hnow : D.now ≤ 100000) (hke : D.kept ≤ 1000000000000) (hpos : 0 < D.eras.length) :
    HCalls Try.prog 32 [.ptr w 0] H n fun r H' n' => ∃ g, r = .tup [.rw g 1 0 D.eras.length, .lit (.int .i64 (D.kept : Int))] ∧ n ≤ g ∧ g < n' ∧ H' g = some (.row false 3 (D.live.map intI)) ∧ ∀ j, j < n → H' j = H j := by
  refine hcallsC_of (rs := [.tmp 2, .tmp 3]) ⟨[0, 2, 3, 4, 5, 6, 13, 24], [], [], [], []⟩ TOk mixed Try.func32 rfl rfl (by kernel_rfl) (by kernel_rfl) rfl ?_
  have ep := h.ep
  have ge := h.ge
  have hlen := hr.len
  have hwl := h.lt w h.Sp.1
  have hgl := h.lt _ h.Sp.2
  obtain ⟨n2, _⟩ := h.nes
  simp only [push_cast, Nat.reduceBEq, Nat.reduceAdd, Nat.reduceEqDiff, reduceCtorEq, Nat.reduceLeDiff, Nat.reduceSub, Nat.reduceMul, Nat.reduceLT, Int.reduceEq, Int.reduceLT, Int.reduceLE, Int.reduceBEq, Int.reduceBNe, Int.reduceToNat, Int.reduceNeg, Int.reduceSub, Int.reduceAdd]
  refine loopK (fun q s => ∃ (m n1 : Nat) (H1 : Hp) (v : AV), s = ⟨[(0, .ptr w 0), (4, v), (5, .lit (.int .i64 (keptN D (m + 1 - D.lo) : Int))), (6, .lit (.int .i64 (m : Int)))], H1, n1⟩ ∧ m ≤ E.length ∧ q = E.length - m ∧ n ≤ n1 ∧ ((∃ g, v = .rw g 1 0 (m + 1 - D.lo) ∧ n ≤ g ∧ g < n1 ∧ H1 g = some (.row false 3 ((liveN D.lo (m + 1 - D.lo)).map intI)))) ∧ ∀ j, j < n → H1 j = H j) _ [0, 4, 5, 6]
    ⟨0, n + 1 + 1, _, .rw (n + 1) 1 0 0, by rw [show 0 + 1 - D.lo = 0 by omega]; rfl, Nat.zero_le _, rfl, by omega, ⟨n + 1, by rw [show 0 + 1 - D.lo = 0 by omega], by omega, by omega, by rw [show 0 + 1 - D.lo = 0 by omega]; exact upd_same _ _ _⟩, fun j hj => (upd_other (by omega)).trans (upd_other (by omega))⟩ ?_
  rintro q _ ⟨m, n1, H1, v, rfl, hm, rfl, hn1, ⟨g, rfl, hg1, hg2, hgr⟩, k1⟩
  have ep1 := (k1 w hwl).trans ep
  have ge1 := (k1 _ hgl).trans ge
  have hwm := wrap_nat0 (k := m) (by omega)
  by_cases hml : m < E.length
  · have hml' : (m : Int) < (E.length : Int) := by omega
    obtain ⟨e, he⟩ : ∃ e, E[m]? = some e := ⟨_, List.getElem?_eq_getElem hml⟩
    have hei : (E.map eraI)[m]? = some [.lit (.int .i64 (e.region : Int)), .lit (.bool e.freed), .lit (.int .i64 (e.bytes : Int))] := by rw [List.getElem?_map, he]; rfl
    by_cases hold : m + 1 < D.lo
    · have hf := hr.old m e he hold
      simp only [push_cast, Nat.reduceBEq, Nat.reduceAdd, Nat.reduceEqDiff, reduceCtorEq, Nat.reduceLeDiff, Nat.reduceSub, Nat.reduceMul, Nat.reduceLT, Int.reduceEq, Int.reduceLT, Int.reduceLE, Int.reduceBEq, Int.reduceBNe, Int.reduceToNat, Int.reduceNeg, Int.reduceSub, Int.reduceAdd, ep1, ge1, hml, hml', hei, hf, hwm]
      refine ⟨_, by omega, m + 1, n1, H1, _, by rw [show m + 1 + 1 - D.lo = m + 1 - D.lo by omega]; rfl, hml, rfl, hn1, ⟨g, by rw [show m + 1 + 1 - D.lo = m + 1 - D.lo by omega], hg1, hg2, by rw [show m + 1 + 1 - D.lo = m + 1 - D.lo by omega]; exact hgr⟩, k1⟩
    · obtain ⟨k, hk⟩ : ∃ k, m + 1 = D.lo + k := ⟨m + 1 - D.lo, by omega⟩
      obtain ⟨hf, r, hrr, e1, e2⟩ := hr.live m k e he hk
      have hks : m + 1 - D.lo = k := by omega
      have hks2 : m + 1 + 1 - D.lo = k + 1 := by omega
      rw [hks] at hgr ⊢
      have hkn := keptN_succ hrr
      have hkb := keptN_le (D := D) (k + 1)
      have hwb : IntKind.i64.wrap ((keptN D k : Int) + (e.bytes : Int)) = (keptN D (k + 1) : Int) := by rw [e2, hkn, Int.natCast_add]; exact IntWalk.i64_in _ (by omega)
      have c1 : (n1 == g) = false := nb (by omega)
      have c2 : (g == n1) = false := nb (by omega)
      have c3 : (n1 == w) = false := nb (by omega)
      have c4 : (n1 == N.ge) = false := nb (by omega)
      have c5 : (g == w) = false := nb (by omega)
      have c6 : (g == N.ge) = false := nb (by omega)
      have c7 : (n1 + 1 == w) = false := nb (by omega)
      have c8 : (n1 + 1 == N.ge) = false := nb (by omega)
      have q5 : (k + 1) * 8 ≤ 140737488355328 := by omega
      simp only [push_cast, Nat.reduceBEq, Nat.reduceAdd, Nat.reduceEqDiff, reduceCtorEq, Nat.reduceLeDiff, Nat.reduceSub, Nat.reduceMul, Nat.reduceLT, Int.reduceEq, Int.reduceLT, Int.reduceLE, Int.reduceBEq, Int.reduceBNe, Int.reduceToNat, Int.reduceNeg, Int.reduceSub, Int.reduceAdd, ep1, ge1, hml, hml', hei, hf, hwm, hgr, liveN_len, c1, c2, c3, c4, c5, c6, c7, c8, q5, hwb]
      refine ⟨_, by omega, m + 1, n1 + 1 + 1, _, _, by rw [hks2]; rfl, hml, rfl, by omega, ⟨n1 + 1, by rw [hks2], by omega, by omega, ?_⟩, fun j hj => ?_⟩
      · rw [hks2, upd_same, liveN_succ, List.map_append, ← hk]; rfl
      · rw [upd_other (by omega), upd_other (by omega), upd_other (by omega)]; exact k1 j hj
  · have hml' : ¬ (m : Int) < (E.length : Int) := by omega
    have hme : m + 1 - D.lo = D.eras.length := by omega
    rw [hme] at hgr ⊢
    have hkk : keptN D D.eras.length = D.kept := by unfold keptN EpD.kept; rw [List.take_length]
    rw [hkk]
    simp only [push_cast, Nat.reduceBEq, Nat.reduceAdd, Nat.reduceEqDiff, reduceCtorEq, Nat.reduceLeDiff, Nat.reduceSub, Nat.reduceMul, Nat.reduceLT, Int.reduceEq, Int.reduceLT, Int.reduceLE, Int.reduceBEq, Int.reduceBNe, Int.reduceToNat, Int.reduceNeg, Int.reduceSub, Int.reduceAdd, ep1, hml, hml']
    exact ⟨g, rfl, hg1, hg2, hgr, k1⟩
theorem rretire_bad (h : REM H n S w p N d E P X) {e : EraE} {l : LandD} {u : ByteArray} {er : Int} (hE : E ≠ []) (hEl : E.length ≤ 1000000) (he : E[E.length - 1]? = some e) (hl : d.lands[e.region]? = some l) (ht : l.there = true) (hll : l.slabs.length < 4096) (hb : u.size ≤ 140737488355328)
    (her : er = 1 ∨ er = 5) (ha : allocD d e.region l u.size = (d, hand0, er)) :
    HCalls Try.prog 23 [.ptr w 0, .lit (.string u)] H n (REP H n S w p d E P X (.tup [note0, .lit (.int .i64 er)])) := by
  refine hcallsC_of (rs := [.cell 4 56, .tmp 5]) ⟨[0, 1, 4, 5, 6, 7, 8, 9, 36], [70], [], [(1, [(0, [], []), (1, [], []), (2, [], []), (3, [], []), (4, [], []), (5, [], []), (6, [], []), (7, [], []), (8, [], []), (9, [], []), (10, [], []), (11, [], [10, 0, 1, 2, 3, 4, 5, 6, 7, 8, 9])]), (2, [(0, [], []), (1, [], []), (2, [], []), (3, [], []), (4, [], []), (5, [], []), (6, [], []), (7, [], []), (8, [], []), (9, [], []), (10, [], [3, 7, 9, 2, 6, 8, 1, 5, 0, 4]), (11, [], []), (12, [], []), (13, [], []), (14, [3, 7, 9], []), (15, [], [14, 12, 10, 0, 1, 2, 3, 4, 5, 6, 7, 8, 9, 11]), (16, [], [13, 15, 0, 1, 2, 3, 4, 5, 6, 7, 8, 9, 10, 11, 12, 14])]), (5, [(0, [], []), (1, [], []), (2, [], []), (3, [], []), (4, [], []), (5, [], []), (6, [], [3, 4, 5, 2, 1, 0])]), (7, [(0, [], []), (1, [], []), (2, [], []), (3, [], []), (4, [], []), (5, [], []), (6, [], []), (7, [3, 4, 5], []), (8, [], [7, 6, 0, 1, 2, 3, 4, 5])]), (8, [(0, [], []), (1, [], []), (2, [], []), (3, [], []), (4, [], []), (5, [], []), (6, [], []), (7, [], [4, 6, 3, 5, 2, 1]), (8, [], []), (9, [], []), (10, [], [9, 7, 0, 1, 2, 3, 4, 5, 6, 8])])], []⟩ TOk mixed Try.func23 rfl rfl (by kernel_rfl) (by kernel_rfl) rfl ?_
  have ep := h.ep
  have ge := h.ge
  have hwl := h.lt w h.Sp.1
  have hgl := h.lt _ h.Sp.2
  obtain ⟨L, hL⟩ : ∃ L, E.length = L + 1 := ⟨E.length - 1, by have := List.length_pos_iff.2 hE; omega⟩
  have hLe : E.length - 1 = L := by omega
  rw [hLe] at he
  have hei : (E.map eraI)[L]? = some [.lit (.int .i64 (e.region : Int)), .lit (.bool e.freed), .lit (.int .i64 (e.bytes : Int))] := by rw [List.getElem?_map, he]; rfl
  have hwL : IntKind.i64.wrap ((E.length : Int) - 1) = (L : Int) := by rw [hL]; rw [show ((L + 1 : Nat) : Int) - 1 = (L : Int) by omega]; exact IntWalk.i64_in _ (by omega)
  have hLl : (L : Int) < (E.length : Int) := by omega
  have c1 : (n == w) = false := nb (by omega)
  have c2 : (n == N.ge) = false := nb (by omega)
  obtain ⟨Sp, ⟨PN, O, p1⟩, p2, p3⟩ := h.pool
  have p1n := fun H' hf => ralloc_c (p1.frame (H' := H') (n' := n + 1) (by omega) hf) hl ht hll hb
  rw [ha] at p1n
  simp only [push_cast, Nat.reduceBEq, Nat.reduceAdd, Nat.reduceEqDiff, reduceCtorEq, Nat.reduceLeDiff, Nat.reduceSub, Nat.reduceMul, Nat.reduceLT, Int.reduceEq, Int.reduceLT, Int.reduceLE, Int.reduceBEq, Int.reduceBNe, Int.reduceToNat, Int.reduceNeg, Int.reduceSub, Int.reduceAdd, ep, ge, hwL, hLl, hei, c1, c2]
  refine callHD (p1n _ fun j hj => upd_other (by have := p1.lt j hj; omega)) ?_
  rintro _ H3 n3 ⟨rfl, Sq, q1, hn3, k3⟩
  have hn3 : n + 1 ≤ n3 := hn3
  have k3 : ∀ j, j < n + 1 → ¬ Sp j → H3 j = upd H n (some (.cells [.lit (.int .i64 0), .lit (.int .i64 0), .lit (.int .i64 0), .lit (.int .i64 0), .lit (.int .i64 0)])) j ∧ ¬ Sq j := k3
  have hnS : ¬ Sp n := fun hs => by have := p1.lt _ hs; omega
  have k4 : ∀ j, j < n → ¬ Sp j → H3 j = H j ∧ ¬ Sq j := fun j hj hs => ⟨(k3 j (by omega) hs).1.trans (upd_other (by omega)), (k3 j (by omega) hs).2⟩
  have h3 := h.pooled p2 p3 q1 (by omega) k4
  have h3n : H3 n = _ := (k3 n (by omega) hnS).1.trans (upd_same _ _ _)
  have her1 : (er == 0) = false := by rcases her with rfl | rfl <;> rfl
  have her2 : (er != 0) = true := by rcases her with rfl | rfl <;> rfl
  have her3 : ¬ er = 0 := by rcases her with rfl | rfl <;> decide
  have d1 : (n3 == n) = false := nb (by omega)
  have d2 : (n == n3) = false := nb (by omega)
  have ep3 := h3.ep
  have ge3 := h3.ge
  have d3 : (n3 == w) = false := nb (by omega)
  have d4 : (n3 == N.ge) = false := nb (by omega)
  have hSn : ¬ (S n ∨ Sq n) := by
    rintro (q | q)
    · have := h.lt n q; omega
    · exact (k3 n (by omega) hnS).2 q
  unfold hand0
  rw [Hv.contD_at]
  refine ⟨by simp only [push_cast, Nat.reduceBEq, Nat.reduceAdd, Nat.reduceEqDiff, reduceCtorEq, Nat.reduceLeDiff, Nat.reduceSub, Nat.reduceMul, Nat.reduceLT, Int.reduceEq, Int.reduceLT, Int.reduceLE, Int.reduceBEq, Int.reduceBNe, Int.reduceToNat, Int.reduceNeg, Int.reduceSub, Int.reduceAdd, h3n, ep3, ge3, d3, d4, hLl, hei], ?_⟩
  simp only [push_cast, Nat.reduceBEq, Nat.reduceAdd, Nat.reduceEqDiff, reduceCtorEq, Nat.reduceLeDiff, Nat.reduceSub, Nat.reduceMul, Nat.reduceLT, Int.reduceEq, Int.reduceLT, Int.reduceLE, Int.reduceBEq, Int.reduceBNe, Int.reduceToNat, Int.reduceNeg, Int.reduceSub, Int.reduceAdd, h3n, her1, her2, her3, d1, d2, ep3, ge3, d3, d4, hLl, hei]
  refine ⟨rfl, _, ⟨_, h3.frame (by omega) fun j hj => ?_⟩, by omega, fun j hj hs => ⟨?_, ?_⟩⟩
  · have := h3.lt j hj
    rw [upd_other (fun q => hSn (by rw [q]; exact hj)), upd_other (by omega), upd_other (by omega)]
  · rw [upd_other (by omega), upd_other (by omega), upd_other (by omega)]
    exact (k4 j hj fun q => hs (p2 j q)).1
  · rintro (q | q)
    · exact hs q
    · exact (k4 j hj fun q => hs (p2 j q)).2 q
theorem rretire_c (h : REM H n S w p N d E P X) {e : EraE} {l l' : LandD} {u : ByteArray} {b : List UInt8} {d' : PoolD} {o s0 : Nat} (hu : u = ⟨b.toArray⟩) (hE : E ≠ []) (hEl : E.length ≤ 1000000) (he : E[E.length - 1]? = some e) (hl : d.lands[e.region]? = some l) (ht : l.there = true) (hll : l.slabs.length < 4096) (hb : b.length ≤ 1000000) (heb : e.bytes ≤ 1000000000000)
    (ha : allocD d e.region l b.length = (d', handA e.region l.gen o b.length, 0)) (hpk : PieceOk d' e.region l' o b.length) (hgen : l'.gen = l.gen) (hs0 : l'.slabs[o / d'.size]? = some s0) (hX : X.length ≤ 100000) :
    HCalls Try.prog 23 [.ptr w 0, .lit (.string u)] H n (REP H n S w p (d'.stored s0 (o % d'.size) b) (E.set (E.length - 1) ⟨e.region, e.freed, e.bytes + b.length⟩) P (X ++ [⟨E.length, e.region, l.gen, o, b.length⟩]) (.tup [noteA ⟨E.length, e.region, l.gen, o, b.length⟩, .lit (.int .i64 0)])) := by
  refine hcallsC_of (rs := [.cell 4 56, .tmp 5]) ⟨[0, 1, 4, 5, 6, 7, 8, 9, 36], [70], [], [(1, [(0, [], []), (1, [], []), (2, [], []), (3, [], []), (4, [], []), (5, [], []), (6, [], []), (7, [], []), (8, [], []), (9, [], []), (10, [], []), (11, [], [10, 0, 1, 2, 3, 4, 5, 6, 7, 8, 9])]), (2, [(0, [], []), (1, [], []), (2, [], []), (3, [], []), (4, [], []), (5, [], []), (6, [], []), (7, [], []), (8, [], []), (9, [], []), (10, [], [3, 7, 9, 2, 6, 8, 1, 5, 0, 4]), (11, [], []), (12, [], []), (13, [], []), (14, [3, 7, 9], []), (15, [], [14, 12, 10, 0, 1, 2, 3, 4, 5, 6, 7, 8, 9, 11]), (16, [], [13, 15, 0, 1, 2, 3, 4, 5, 6, 7, 8, 9, 10, 11, 12, 14])]), (5, [(0, [], []), (1, [], []), (2, [], []), (3, [], []), (4, [], []), (5, [], []), (6, [], [3, 4, 5, 2, 1, 0])]), (7, [(0, [], []), (1, [], []), (2, [], []), (3, [], []), (4, [], []), (5, [], []), (6, [], []), (7, [3, 4, 5], []), (8, [], [7, 6, 0, 1, 2, 3, 4, 5])]), (8, [(0, [], []), (1, [], []), (2, [], []), (3, [], []), (4, [], []), (5, [], []), (6, [], []), (7, [], [4, 6, 3, 5, 2, 1]), (8, [], []), (9, [], []), (10, [], [9, 7, 0, 1, 2, 3, 4, 5, 6, 8])])], []⟩ TOk mixed Try.func23 rfl rfl (by kernel_rfl) (by kernel_rfl) rfl ?_
  have ep := h.ep
  have ge := h.ge
  have hwl := h.lt w h.Sp.1
  have hgl := h.lt _ h.Sp.2
  have hus : u.size = b.length := by rw [hu]; rfl
  obtain ⟨L, hL⟩ : ∃ L, E.length = L + 1 := ⟨E.length - 1, by have := List.length_pos_iff.2 hE; omega⟩
  have hLe : E.length - 1 = L := by omega
  rw [hLe] at he ⊢
  have hei : (E.map eraI)[L]? = some [.lit (.int .i64 (e.region : Int)), .lit (.bool e.freed), .lit (.int .i64 (e.bytes : Int))] := by rw [List.getElem?_map, he]; rfl
  have hwL : IntKind.i64.wrap ((E.length : Int) - 1) = (L : Int) := by rw [hL]; rw [show ((L + 1 : Nat) : Int) - 1 = (L : Int) by omega]; exact IntWalk.i64_in _ (by omega)
  have hLl : (L : Int) < (E.length : Int) := by omega
  have c1 : (n == w) = false := nb (by omega)
  have c2 : (n == N.ge) = false := nb (by omega)
  obtain ⟨Sp, ⟨PN, O, p1⟩, p2, p3⟩ := h.pool
  have p1n := fun H' hf => ralloc_c (p1.frame (H' := H') (n' := n + 1) (by omega) hf) hl ht hll (c := b.length) (by omega)
  rw [ha] at p1n
  simp only [push_cast, Nat.reduceBEq, Nat.reduceAdd, Nat.reduceEqDiff, reduceCtorEq, Nat.reduceLeDiff, Nat.reduceSub, Nat.reduceMul, Nat.reduceLT, Int.reduceEq, Int.reduceLT, Int.reduceLE, Int.reduceBEq, Int.reduceBNe, Int.reduceToNat, Int.reduceNeg, Int.reduceSub, Int.reduceAdd, ep, ge, hwL, hLl, hei, c1, c2, hus]
  refine callHD (p1n _ fun j hj => upd_other (by have := p1.lt j hj; omega)) ?_
  rintro _ H3 n3 ⟨rfl, Sq, ⟨PN3, O3, q1⟩, hn3, k3⟩
  have hn3 : n + 1 ≤ n3 := hn3
  have k3 : ∀ j, j < n + 1 → ¬ Sp j → H3 j = upd H n (some (.cells [.lit (.int .i64 0), .lit (.int .i64 0), .lit (.int .i64 0), .lit (.int .i64 0), .lit (.int .i64 0)])) j ∧ ¬ Sq j := k3
  have hnS : ¬ Sp n := fun hs => by have := p1.lt _ hs; omega
  have k4 : ∀ j, j < n → ¬ Sp j → H3 j = H j ∧ ¬ Sq j := fun j hj hs => ⟨(k3 j (by omega) hs).1.trans (upd_other (by omega)), (k3 j (by omega) hs).2⟩
  have h3 := h.pooled p2 p3 ⟨PN3, O3, q1⟩ (by omega) k4
  have h3n : H3 n = _ := (k3 n (by omega) hnS).1.trans (upd_same _ _ _)
  have d1 : (n3 == n) = false := nb (by omega)
  have d2 : (n == n3) = false := nb (by omega)
  have ep3 := h3.ep
  have ge3 := h3.ge
  have d3 : (n3 == w) = false := nb (by omega)
  have d4 : (n3 == N.ge) = false := nb (by omega)
  have hSn : ¬ (S n ∨ Sq n) := by
    rintro (q | q)
    · have := h.lt n q; omega
    · exact (k3 n (by omega) hnS).2 q
  have kH : ∀ (o1 o2 : Option AO) (j : Nat), j < n3 → upd (upd H3 n3 o1) n3 o2 j = H3 j := fun o1 o2 j hj => by rw [upd_other (by omega), upd_other (by omega)]
  obtain ⟨Sp3, ⟨PN4, O4, r1⟩, r2, r3⟩ := h3.pool
  have hst := fun o1 o2 => rstore_c (u := u) (b := b) (n := n3 + 1) (r1.frame (H' := upd (upd H3 n3 o1) n3 o2) (n' := n3 + 1) (by omega) fun j hj => kH o1 o2 j (r1.lt j hj)) hu hpk hs0
  rw [hgen] at hst
  have h4 := fun o1 o2 => h3.frame (H' := upd (upd H3 n3 o1) n3 o2) (n' := n3 + 1) (by omega) fun j hj => kH o1 o2 j (h3.lt j hj)
  unfold handA at hst ⊢
  rw [Hv.contD_at]
  refine ⟨by simp only [push_cast, Nat.reduceBEq, Nat.reduceAdd, Nat.reduceEqDiff, reduceCtorEq, Nat.reduceLeDiff, Nat.reduceSub, Nat.reduceMul, Nat.reduceLT, Int.reduceEq, Int.reduceLT, Int.reduceLE, Int.reduceBEq, Int.reduceBNe, Int.reduceToNat, Int.reduceNeg, Int.reduceSub, Int.reduceAdd, h3n, ep3, ge3, d3, d4, hLl, hei, hus], ?_⟩
  simp only [push_cast, Nat.reduceBEq, Nat.reduceAdd, Nat.reduceEqDiff, reduceCtorEq, Nat.reduceLeDiff, Nat.reduceSub, Nat.reduceMul, Nat.reduceLT, Int.reduceEq, Int.reduceLT, Int.reduceLE, Int.reduceBEq, Int.reduceBNe, Int.reduceToNat, Int.reduceNeg, Int.reduceSub, Int.reduceAdd, h3n, ep3, ge3, hLl, hei, d1, d2, d3, d4, hus]
  refine callHD (hst _ _) ?_
  rintro _ H5 n5 ⟨rfl, Su, u1, hn5, k5⟩
  have hn5 : n3 + 1 ≤ n5 := hn5
  have k5 : ∀ j, j < n3 + 1 → ¬ Sp3 j → H5 j = upd (upd H3 n3 (some (.cells [.lit (.int .i64 0), .lit (.int .i64 0), .lit (.int .i64 0), .lit (.int .i64 0)]))) n3 (some (.cells [.lit (.int .i64 (e.region : Int)), .lit (.int .i64 (l.gen : Int)), .lit (.int .i64 (o : Int)), .lit (.int .i64 (b.length : Int))])) j ∧ ¬ Su j := k5
  have h5 := (h4 _ _).pooled r2 r3 u1 (by omega) k5
  have hn3S : ¬ Sp3 n3 := fun q => by have := r1.lt _ q; omega
  have h5n3 : H5 n3 = _ := (k5 n3 (by omega) hn3S).1.trans (upd_same _ _ _)
  have hnS3 : ¬ Sp3 n := fun q => hSn (r2 n q)
  have h5n : H5 n = _ := (k5 n (by omega) hnS3).1.trans ((kH _ _ n (by omega)).trans h3n)
  have ep5 := h5.ep
  have ge5 := h5.ge
  obtain ⟨m2, m3, m4, m5⟩ := h5.nes
  have f1 : (N.ge == w) = false := nb m2
  have f2 : (n5 == n3) = false := nb (by omega)
  have f3 : (n3 == n5) = false := nb (by omega)
  have f4 : (n5 == n) = false := nb (by omega)
  have f5 : (n == n5) = false := nb (by omega)
  have f6 : (n5 == w) = false := nb (by omega)
  have f7 : (w == N.ge) = false := nb (Ne.symm m2)
  have f8 : (N.ge == n3) = false := nb (by omega)
  have f9 : (N.ge == n) = false := nb (by omega)
  have f10 : (n5 == N.ge) = false := nb (by omega)
  have f11 : (w == n5) = false := nb (by omega)
  have hwb : IntKind.i64.wrap ((e.bytes : Int) + (b.length : Int)) = (e.bytes : Int) + (b.length : Int) := IntWalk.i64_in _ (by omega)
  have hset : (E.map eraI).set L [.lit (.int .i64 (e.region : Int)), .lit (.bool e.freed), .lit (.int .i64 ((e.bytes : Int) + (b.length : Int)))] = (E.set L ⟨e.region, e.freed, e.bytes + b.length⟩).map eraI := by rw [List.map_set]; rfl
  have hE6 := h5.eras (g := N.ge) (E' := E.set L ⟨e.region, e.freed, e.bytes + b.length⟩) (n' := n5) (H' := upd H5 N.ge (some (.row true 113 ((E.set L ⟨e.region, e.freed, e.bytes + b.length⟩).map eraI)))) (Nat.le_refl _) (by rw [upd_other m2, List.length_set]; exact ep5) (upd_same _ _ _) (by omega) (.inl rfl) (fun j hj q1 q2 => upd_other (Ne.symm q2))
  have f12 : (n5 + 1 == w) = false := nb (by omega)
  have f13 : (n5 + 1 == n5) = false := nb (by omega)
  have f14 : (n5 + 1 == n) = false := nb (by omega)
  have f15 : (w == n) = false := nb (by omega)
  have f16 : (n3 == N.ge) = false := nb (by omega)
  have hfr : ∀ (o1 o2 o3 o4 o5 o6 : Option AO) (j : Nat), j < n → ¬ S j → (False → False) → upd (upd (upd (upd (upd (upd H5 N.ge o1) n5 o2) n5 o3) (n5 + 1) o4) w o5) n o6 j = H j := fun o1 o2 o3 o4 o5 o6 j hj hs _ => by
    rw [upd_other (by omega), upd_other (fun q => hs (by rw [← q]; exact h.Sp.1)), upd_other (by omega), upd_other (by omega), upd_other (by omega), upd_other (fun q => hs (by rw [← q]; exact h.Sp.2)), (k5 j (by omega) fun q => ?_).1, kH _ _ j (by omega), (k4 j hj fun q => hs (p2 j q)).1]
    rcases r2 j q with q | q
    · exact hs q
    · exact (k4 j hj fun q => hs (p2 j q)).2 q
  have hns : ∀ j, j < n → ¬ S j → ¬ ((((S j ∨ Sq j) ∨ Su j) ∨ j = N.ge) ∨ j = n5 + 1) := fun j hj hs => by
    have hq := (k4 j hj fun q => hs (p2 j q)).2
    have h3j : ¬ Sp3 j := fun q => by
      rcases r2 j q with q | q
      · exact hs q
      · exact hq q
    rintro ((((q | q) | q) | q) | q)
    · exact hs q
    · exact hq q
    · exact (k5 j (by omega) h3j).2 q
    · exact hs (by rw [q]; exact h.Sp.2)
    · omega
  rcases h5.vh with ⟨hv, hi⟩ | ⟨g, hv, hg, hS5, _⟩
  · have hX0 : X = [] := List.map_eq_nil_iff.1 hi
    subst hX0
    rw [hv] at ep5
    unfold nilV at ep5
    rw [Hv.contD_at]
    refine ⟨by simp only [push_cast, Nat.reduceBEq, Nat.reduceAdd, Nat.reduceEqDiff, reduceCtorEq, Nat.reduceLeDiff, Nat.reduceSub, Nat.reduceMul, Nat.reduceLT, Int.reduceEq, Int.reduceLT, Int.reduceLE, Int.reduceBEq, Int.reduceBNe, Int.reduceToNat, Int.reduceNeg, Int.reduceSub, Int.reduceAdd], ?_⟩
    simp only [push_cast, Nat.reduceBEq, Nat.reduceAdd, Nat.reduceEqDiff, reduceCtorEq, Nat.reduceLeDiff, Nat.reduceSub, Nat.reduceMul, Nat.reduceLT, Int.reduceEq, Int.reduceLT, Int.reduceLE, Int.reduceBEq, Int.reduceBNe, Int.reduceToNat, Int.reduceNeg, Int.reduceSub, Int.reduceAdd, ep5, ge5, h5n3, h5n, hLl, hei, hus, hwb, hset, f1, f2, f3, f4, f5, f6, f7, f8, f9, f10, f11, f12, f13, f14, f15, f16]
    have hF := hE6.had (g := n5 + 1) (X' := [⟨E.length, e.region, l.gen, o, b.length⟩]) (by simp) (n' := n5 + 1 + 1) (H' := upd (upd (upd (upd (upd (upd H5 N.ge (some (.row true 113 ((E.set L ⟨e.region, e.freed, e.bytes + b.length⟩).map eraI)))) n5 (some (.cells [.lit (.int .i64 0), .lit (.int .i64 0), .lit (.int .i64 0), .lit (.int .i64 0), .lit (.int .i64 0)]))) n5 (some (.cells (noteI ⟨E.length, e.region, l.gen, o, b.length⟩)))) (n5 + 1) (some (.row true 56 [noteI ⟨E.length, e.region, l.gen, o, b.length⟩]))) w (some (.cells [.ptr p 0, .rw N.ge 3 0 E.length, N.vp, .rw (n5 + 1) 5 0 1]))) n (some (.cells (noteI ⟨E.length, e.region, l.gen, o, b.length⟩))))
      (by omega) (by rw [upd_other (by omega), upd_same, List.length_set]; rfl) (by rw [upd_other (by omega), upd_other (by omega), upd_same]; rfl) (by omega) (by omega) (fun j hj q1 q2 => by
        have := hE6.lt j hj
        have hjn : n ≠ j := fun q => by
          subst q
          rcases hj with ((q | q) | q) | q
          · exact hSn (.inl q)
          · exact hSn (.inr q)
          · exact (k5 n (by omega) hnS3).2 q
          · omega
        rw [upd_other hjn, upd_other (Ne.symm q1), upd_other (by omega), upd_other (by omega), upd_other (by omega)])
    refine ⟨rfl, _, ⟨_, hF⟩, by omega, fun j hj hs => ⟨?_, ?_⟩⟩
    · exact hfr _ _ _ _ _ _ j hj hs (fun q => by cases q)
    · exact hns j hj hs
  · rw [hv, List.length_map] at ep5
    have hgl5 := h5.lt g hS5
    obtain ⟨y1, y2⟩ := m4 g hv
    have hgn : g ≠ n := fun q => by
      subst q
      rcases hS5 with (q | q) | q
      · exact hSn (.inl q)
      · exact hSn (.inr q)
      · exact (k5 g (by omega) hnS3).2 q
    have hgw : (g == w) = false := nb y1
    have hgg : (g == N.ge) = false := nb y2
    have hgg' : (N.ge == g) = false := nb (Ne.symm y2)
    have hgn' : (g == n) = false := nb hgn
    have hgn3 : (n5 == g) = false := nb (by omega)
    have hgn4 : (g == n5) = false := nb (by omega)
    have hgn5 : (n5 + 1 == g) = false := nb (by omega)
    have hgn6 : (g == n5 + 1) = false := nb (by omega)
    have hwg : (w == g) = false := nb (Ne.symm y1)
    have q40 : (X.length + 1) * 40 ≤ 140737488355328 := by omega
    rw [Hv.contD_at]
    refine ⟨by simp only [push_cast, Nat.reduceBEq, Nat.reduceAdd, Nat.reduceEqDiff, reduceCtorEq, Nat.reduceLeDiff, Nat.reduceSub, Nat.reduceMul, Nat.reduceLT, Int.reduceEq, Int.reduceLT, Int.reduceLE, Int.reduceBEq, Int.reduceBNe, Int.reduceToNat, Int.reduceNeg, Int.reduceSub, Int.reduceAdd], ?_⟩
    simp only [push_cast, Nat.reduceBEq, Nat.reduceAdd, Nat.reduceEqDiff, reduceCtorEq, Nat.reduceLeDiff, Nat.reduceSub, Nat.reduceMul, Nat.reduceLT, Int.reduceEq, Int.reduceLT, Int.reduceLE, Int.reduceBEq, Int.reduceBNe, Int.reduceToNat, Int.reduceNeg, Int.reduceSub, Int.reduceAdd, ep5, ge5, h5n3, h5n, hg, hLl, hei, hus, hwb, hset, hgw, hgg, hgg', hgn', hgn3, hgn4, hgn5, hgn6, hwg, q40, List.length_map, f1, f2, f3, f4, f5, f6, f7, f8, f9, f10, f11, f12, f13, f14, f15, f16]
    have hgS : S g := (h.vh.row hv).2
    have hF := hE6.had (g := n5 + 1) (X' := X ++ [⟨E.length, e.region, l.gen, o, b.length⟩]) (by simp) (n' := n5 + 1 + 1) (H' := upd (upd (upd (upd (upd (upd (upd H5 N.ge (some (.row true 113 ((E.set L ⟨e.region, e.freed, e.bytes + b.length⟩).map eraI)))) n5 (some (.cells [.lit (.int .i64 0), .lit (.int .i64 0), .lit (.int .i64 0), .lit (.int .i64 0), .lit (.int .i64 0)]))) n5 (some (.cells (noteI ⟨E.length, e.region, l.gen, o, b.length⟩)))) g (oldO true 56 (X.map noteI))) (n5 + 1) (some (.row true 56 (X.map noteI ++ [noteI ⟨E.length, e.region, l.gen, o, b.length⟩])))) w (some (.cells [.ptr p 0, .rw N.ge 3 0 E.length, N.vp, .rw (n5 + 1) 5 0 (X.length + 1)]))) n (some (.cells (noteI ⟨E.length, e.region, l.gen, o, b.length⟩))))
      (by omega) (by rw [upd_other (by omega), upd_same, List.length_set, List.length_append]; rfl) (by rw [upd_other (by omega), upd_other (by omega), upd_same, List.map_append]; rfl) (by omega) (by omega) (fun j hj q1 q2 => by
        have := hE6.lt j hj
        have hjn : n ≠ j := fun q => by
          subst q
          rcases hj with ((q | q) | q) | q
          · exact hSn (.inl q)
          · exact hSn (.inr q)
          · exact (k5 n (by omega) hnS3).2 q
          · omega
        rw [upd_other hjn, upd_other (Ne.symm q1), upd_other (by omega), upd_other (Ne.symm (q2 g (by rw [hv, List.length_map]))), upd_other (by omega), upd_other (by omega)])
    refine ⟨rfl, _, ⟨_, hF⟩, by omega, fun j hj hs => ⟨?_, ?_⟩⟩
    · have hq := hfr (some (.row true 113 ((E.set L ⟨e.region, e.freed, e.bytes + b.length⟩).map eraI))) none none none none none j hj hs (fun q => q)
      rw [upd_other (by omega), upd_other (fun q => hs (by rw [← q]; exact h.Sp.1)), upd_other (by omega), upd_other (by omega), upd_other (by omega)] at hq
      rw [upd_other (by omega), upd_other (fun q => hs (by rw [← q]; exact h.Sp.1)), upd_other (by omega), upd_other (fun q => hs (by rw [← q]; exact hgS)), upd_other (by omega), upd_other (by omega)]
      exact hq
    · exact hns j hj hs
end
end Go.Proofs.Ytndojmpgadbefaa
