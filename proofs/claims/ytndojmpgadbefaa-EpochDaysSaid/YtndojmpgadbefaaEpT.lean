/- Epochs: what nobody may look at is freed; by the walk over a heap. -/
import Derived.Test.YtndojmpgadbefaaEpS
set_option linter.unusedVariables false
set_option linter.unusedSimpArgs false
namespace Go.Proofs.Ytndojmpgadbefaa
open Go Go.RowKit Hv
set_option maxRecDepth 20000
set_option maxHeartbeats 4000000
theorem len_le {α : Type} [DecidableEq α] : ∀ {a b : List α}, a.Nodup → (∀ x ∈ a, x ∈ b) → a.length ≤ b.length
  | [], b, _, _ => Nat.zero_le _
  | y :: a, b, hn, hs => by
    have hy : y ∈ b := hs y List.mem_cons_self
    have hle := List.length_erase_of_mem hy
    have hpos := List.length_pos_of_mem hy
    have := len_le (List.nodup_cons.1 hn).2 (b := b.erase y) fun z hz => by
      have hzy : z ≠ y := fun e => (List.nodup_cons.1 hn).1 (e ▸ hz)
      exact (List.mem_erase_of_ne hzy).2 (hs z (List.mem_cons_of_mem _ hz))
    simp only [List.length_cons]; omega
theorem EpOk.few {D : EpD} (ok : EpOk D) (hk : PoolOk D.pool) : D.eras.length ≤ 256 := by
  have := len_le (b := List.range 256) ok.regN fun x hx => by
    obtain ⟨r, hr, rfl⟩ := List.mem_map.1 hx
    obtain ⟨l, hl, _⟩ := ok.reg r hr
    have := (List.getElem?_eq_some_iff.1 hl).1
    rw [hk.ll] at this
    exact List.mem_range.2 this
  simpa using this
/-- The first epoch is freed. -/
def EpD.drop1 (D : EpD) (r : EraD) (l : LandD) : EpD := ⟨D.pool.freed r.region l, D.now, D.last, D.lo + 1, D.eras.tail, D.pins, D.pc⟩
theorem EpOk.drop1 {D : EpD} (ok : EpOk D) {r r2 : EraD} {rs : List EraD} {l : LandD} (hr : D.eras = r :: r2 :: rs) (hl : D.pool.lands[r.region]? = some l) : EpOk (D.drop1 r l) := by
  have hnd := ok.regN
  rw [hr, List.map_cons, List.nodup_cons] at hnd
  have ht : D.eras.tail = r2 :: rs := by rw [hr]; rfl
  have hsub : ∀ x ∈ D.eras.tail, x ∈ D.eras := fun x hx => List.mem_of_mem_tail hx
  refine ⟨?_, ⟨by show 1 ≤ D.lo + 1; omega, .inr (by show D.eras.tail ≠ []; rw [ht]; simp)⟩, ok.nowB, ok.lastB, ok.pinK, ok.pinV, ok.pinN, fun x hx => ?_, by show (D.eras.tail.map _).Nodup; rw [ht]; exact hnd.2, fun x hx => ok.byteB x (hsub x hx)⟩
  · show D.lo + 1 + D.eras.tail.length = D.now + 1
    have := ok.cnt
    rw [hr] at this
    rw [ht]
    simp only [List.length_cons] at this ⊢
    exact (by omega)
  · obtain ⟨l', h1, h2⟩ := ok.reg x (hsub x hx)
    have hne : x.region ≠ r.region := fun e => hnd.1 (by rw [← e]; exact List.mem_map.2 ⟨x, by rw [← ht]; exact hx, rfl⟩)
    exact ⟨l', by show (D.pool.lands.set r.region _)[x.region]? = _; rw [List.getElem?_set_ne (Ne.symm hne)]; exact h1, h2⟩
section
variable {H H' : Hp} {n n' e : Nat} {S : Nat → Prop} {D : EpD} {N : EpN}
theorem EpH.dropTo (h : EpH H n S e N D) {Sp Sq : Nat → Prop} {r r2 : EraD} {rs : List EraD} {l : LandD} (hr : D.eras = r :: r2 :: rs) (hl : D.pool.lands[r.region]? = some l) (p2 : ∀ j, Sp j → S j) (p3 : ¬ Sp e) (p4 : ¬ Sp N.lv) (p5 : ¬ Sp N.pn) (p6 : ∀ x ∈ N.ps, ¬ Sp x.1 ∧ ¬ Sp x.2)
    (q : Pool H' n' Sq N.p (D.pool.freed r.region l)) (hn : n ≤ n') (k : ∀ j, j < n → ¬ Sp j → j ≠ N.lv → H' j = H j) (kS : ∀ j, j < n → ¬ Sp j → ¬ Sq j) (hlv : H' N.lv = some (.map (N.es.tail.map (Ent.me intA ptrA)) N.lc)) :
    EpH H' n' (fun j => S j ∨ Sq j) e ⟨N.p, N.lv, N.pn, N.ps.tail, N.es.tail, N.lc⟩ (D.drop1 r l) := by
  obtain ⟨n1, n2, n3⟩ := h.nes
  have ks : ∀ j, S j → ¬ Sp j → j ≠ N.lv → H' j = H j := fun j hj hs hv => k j (h.lt j hj) hs hv
  have nq : ∀ j, S j → ¬ Sp j → ¬ Sq j := fun j hj hs => kS j (h.lt j hj) hs
  have htl : ∀ x ∈ N.ps.tail, x ∈ N.ps := fun x hx => List.mem_of_mem_tail hx
  have hte : ∀ x ∈ N.es.tail, x ∈ N.es := fun x hx => List.mem_of_mem_tail hx
  refine ⟨(ks e h.Sp.1 p3 n1).trans h.ep, ⟨Sq, q, fun j hj => .inr hj, nq e h.Sp.1 p3, nq N.lv h.Sp.2.1 p4, nq N.pn h.Sp.2.2.1 p5, fun x hx => ?_⟩, hlv, ⟨?_, ?_, fun x hx => h.lvOk.lt x (hte x hx)⟩, (ks N.pn h.Sp.2.2.1 p5 (Ne.symm h.ne.1)).trans h.pn, h.pnOk, fun i x q a1 a2 => ?_, ?_, fun i en a1 => ?_, ⟨?_, ?_⟩, ⟨.inl h.Sp.1, .inl h.Sp.2.1, .inl h.Sp.2.2.1, fun x hx => ?_⟩, ⟨h.ne.1, fun x hx => h.ne.2 x (htl x hx)⟩, fun j hj => ?_, h.ok.drop1 hr hl⟩
  · obtain ⟨s1, s2⟩ := h.Sp.2.2.2 x (htl x hx)
    exact ⟨nq _ s1 (p6 x (htl x hx)).1, nq _ s2 (p6 x (htl x hx)).2⟩
  · rw [List.map_tail]; exact h.lvOk.keys.sublist (List.tail_sublist _)
  · rw [List.map_tail]; exact h.lvOk.borns.sublist (List.tail_sublist _)
  · rw [List.getElem?_tail] at a1
    rw [show (D.drop1 r l).eras[i]? = D.eras[i + 1]? from List.getElem?_tail] at a2
    have hx := List.mem_of_getElem? a1
    obtain ⟨b1, b2, b3⟩ := h.er (i + 1) x q a1 a2
    obtain ⟨s1, s2⟩ := h.Sp.2.2.2 x hx
    obtain ⟨m1, m2, m3, m4⟩ := n3 x hx
    exact ⟨(ks _ s1 (p6 x hx).1 m2).trans b1, (ks _ s2 (p6 x hx).2 (h.ne.2 x hx).1).trans b2, b3⟩
  · show N.es.tail.length = D.eras.tail.length ∧ N.ps.tail.length = D.eras.tail.length
    rw [List.length_tail, List.length_tail, List.length_tail, h.esl.1, h.esl.2]
    exact ⟨rfl, rfl⟩
  · rw [List.getElem?_tail] at a1
    obtain ⟨x, b1, b2, b3⟩ := h.es (i + 1) en a1
    refine ⟨x, by rw [List.getElem?_tail]; exact b1, ?_, b3⟩
    rw [b2]
    show ((D.lo + (i + 1) : Nat) : Int) = ((D.lo + 1 + i : Nat) : Int)
    omega
  · rw [List.map_tail]; exact h.nd.1.sublist (List.tail_sublist _)
  · rw [List.map_tail]; exact h.nd.2.sublist (List.tail_sublist _)
  · obtain ⟨s1, s2⟩ := h.Sp.2.2.2 x (htl x hx)
    exact ⟨.inl s1, .inl s2⟩
  · rcases hj with hj | hj
    · exact Nat.lt_of_lt_of_le (h.lt j hj) hn
    · exact q.lt j hj
/-- So many epochs are freed. -/
def EpD.dropped : EpD → Nat → EpD
  | D, 0 => D
  | D, m + 1 => match D.eras with
    | [] => D
    | r :: _ => (D.drop1 r (D.pool.lands.getD r.region landZ)).dropped m
theorem dropped_snoc : ∀ (m : Nat) (D : EpD), m < D.eras.length → ∀ r, (D.dropped m).eras.head? = some r → D.dropped (m + 1) = (D.dropped m).drop1 r ((D.dropped m).pool.lands.getD r.region landZ)
  | 0, D, h, r, hr => by
    cases he : D.eras with
    | nil => rw [he] at h; exact absurd h (by simp)
    | cons r0 rs =>
      have : (D.dropped 0).eras.head? = some r0 := by show D.eras.head? = _; rw [he]; rfl
      rw [this] at hr
      injection hr with hr
      subst hr
      show (match D.eras with | [] => D | r :: _ => _) = _
      rw [he]; rfl
  | m + 1, D, h, r, hr => by
    cases he : D.eras with
    | nil => rw [he] at h; exact absurd h (by simp)
    | cons r0 rs =>
      have e : ∀ k, D.dropped (k + 1) = (D.drop1 r0 (D.pool.lands.getD r0.region landZ)).dropped k := fun k => by
        show (match D.eras with | [] => D | r :: _ => _) = _
        rw [he]
      rw [e m] at hr
      rw [e (m + 1), e m]
      refine dropped_snoc m _ ?_ r hr
      show m < D.eras.tail.length
      rw [List.length_tail]; omega
theorem dropped_is : ∀ (m : Nat) (D : EpD), m ≤ D.eras.length → (D.dropped m).eras = D.eras.drop m ∧ (D.dropped m).lo = D.lo + m ∧ (D.dropped m).now = D.now ∧ (D.dropped m).last = D.last ∧ (D.dropped m).pins = D.pins ∧ (D.dropped m).pc = D.pc
  | 0, D, _ => ⟨rfl, rfl, rfl, rfl, rfl, rfl⟩
  | m + 1, D, h => by
    cases he : D.eras with
    | nil => rw [he] at h; exact absurd h (by simp)
    | cons r0 rs =>
      have e : D.dropped (m + 1) = (D.drop1 r0 (D.pool.lands.getD r0.region landZ)).dropped m := by
        show (match D.eras with | [] => D | r :: _ => _) = _
        rw [he]
      have ht : (D.drop1 r0 (D.pool.lands.getD r0.region landZ)).eras = rs := by show D.eras.tail = _; rw [he]; rfl
      obtain ⟨h1, h2, h3, h4, h5, h6⟩ := dropped_is m (D.drop1 r0 (D.pool.lands.getD r0.region landZ)) (by rw [ht]; rw [he] at h; simpa using h)
      rw [e]
      refine ⟨by rw [h1, ht]; rfl, ?_, h3, h4, h5, h6⟩
      rw [h2]
      show D.lo + 1 + m = _
      omega
theorem collect_c (h : EpH H n S e N D) (hnow : 1 ≤ D.now) {z : Int} {c : Nat} (hz : IsOldest D z) (hc : (D.lo : Int) + c = z ∨ (z ≤ D.lo ∧ c = 0)) :
    HCalls Try.prog 30 [.ptr e 0] H n (EpP H n S e N.p (D.dropped c) (.tup [.lit (.int .i64 (c : Int)), .lit (.int .i64 0)])) := by
  have hfew := h.ok.few (by obtain ⟨_, p1, _⟩ := h.pool; exact p1.ok)
  have hcnt := h.ok.cnt
  have hpos : 0 < D.eras.length := by
    rcases h.ok.pos.2 with h0 | h0
    · omega
    · exact List.length_pos_iff.2 h0
  have hle := hz.le
  have hcl : c < D.eras.length := by omega
  refine hcallsC_of (rs := [.tmp 2, .tmp 3]) ⟨[0, 2, 3, 4, 6, 7, 9, 11, 12, 13, 14, 20, 36], [], [], [(8, [(0, [], []), (1, [], []), (2, [], []), (3, [], []), (4, [], []), (5, [], []), (6, [], []), (7, [], []), (8, [], []), (9, [], []), (10, [], []), (11, [], []), (12, [], []), (13, [], [3, 12, 2, 11, 1, 10, 0, 9, 7, 8, 6, 5, 4]), (14, [], [13, 0, 1, 2, 3, 4, 5, 6, 7, 8, 9, 10, 11, 12])])], []⟩ TOk mixed Try.func30 rfl rfl (by kernel_rfl) (by kernel_rfl) rfl ?_
  have ep := h.ep
  have hen := h.lt e h.Sp.1
  simp only [push_cast, Nat.reduceBEq, Nat.reduceAdd, Nat.reduceEqDiff, reduceCtorEq, Nat.reduceLeDiff, Nat.reduceSub, Nat.reduceMul, Nat.reduceLT, Int.reduceEq, Int.reduceLT, Int.reduceLE, Int.reduceBEq, Int.reduceBNe, Int.reduceToNat, Int.reduceNeg, Int.reduceSub, Int.reduceAdd]
  refine callH (none_h ep) ?_
  rintro _ H n ⟨rfl, rfl, rfl⟩
  simp only [push_cast, Nat.reduceBEq, Nat.reduceAdd, Nat.reduceEqDiff, reduceCtorEq, Nat.reduceLeDiff, Nat.reduceSub, Nat.reduceMul, Nat.reduceLT, Int.reduceEq, Int.reduceLT, Int.reduceLE, Int.reduceBEq, Int.reduceBNe, Int.reduceToNat, Int.reduceNeg, Int.reduceSub, Int.reduceAdd]
  refine callH (live_c h hnow (by omega)) ?_
  rintro _ H1 n1 ⟨g, rfl, hg1, hg2, hgr, k1⟩
  dsimp only at hg1 k1
  simp only [push_cast, Nat.reduceBEq, Nat.reduceAdd, Nat.reduceEqDiff, reduceCtorEq, Nat.reduceLeDiff, Nat.reduceSub, Nat.reduceMul, Nat.reduceLT, Int.reduceEq, Int.reduceLT, Int.reduceLE, Int.reduceBEq, Int.reduceBNe, Int.reduceToNat, Int.reduceNeg, Int.reduceSub, Int.reduceAdd]
  refine loopK (fun q s => ∃ (m : Nat) (H4 : Hp) (n4 : Nat) (S4 : Nat → Prop) (N4 : EpN), s = ⟨[(0, .ptr e 0), (4, .lit (.int .i64 (m : Int))), (11, .rw g 1 0 D.eras.length), (12, .lit (.int .i64 (D.eras.length : Int))), (13, .lit (.int .i64 (m : Int)))], H4, n4⟩ ∧ m ≤ c ∧ q = c - m ∧ EpH H4 n4 S4 e N4 (D.dropped m) ∧ n1 ≤ n4 ∧ H4 g = some (.row true 3 (D.live.map intI)) ∧ N4.p = N.p ∧ ¬ S4 g ∧ ∀ j, j < n → ¬ S j → H4 j = H j ∧ ¬ S4 j) _ [0, 4, 11, 12, 13]
    ⟨0, H1, n1, S, N, rfl, Nat.zero_le _, rfl, h.frame (by omega) (fun j hj => k1 j (h.lt j hj)), Nat.le_refl _, hgr, rfl, fun hs => by have := h.lt g hs; omega, fun j hj hs => ⟨k1 j hj, hs⟩⟩ ?_
  rintro q _ ⟨m, H4, n4, S4, N4, rfl, hm, rfl, hE, hn4, hg4, hNp, hgS, hfr⟩
  obtain ⟨d1, d2, d3, d4, d5, d6⟩ := dropped_is m D (by omega)
  have hml : (m : Int) < (D.eras.length : Int) := by omega
  have hlive : (D.live.map intI)[m]? = some [.lit (.int .i64 ((D.lo + m : Nat) : Int))] := by
    unfold EpD.live
    rw [List.getElem?_map, List.getElem?_map, List.getElem?_range (by omega)]; rfl
  have hll : D.live.length = D.eras.length := by unfold EpD.live; rw [List.length_map, List.length_range]
  have hbl : Nat.ble D.eras.length D.live.length = true := by rw [Nat.ble_eq, hll]; exact Nat.le_refl _
  have htk : List.take D.eras.length (D.live.map intI) = D.live.map intI := List.take_of_length_le (by rw [List.length_map, hll]; exact Nat.le_refl _)
  have hz4 : IsOldest (D.dropped m) z := ⟨by rw [d3]; exact hz.le, by rw [d5]; exact hz.all, by rw [d3, d5]; exact hz.is⟩
  simp only [push_cast, Nat.reduceBEq, Nat.reduceAdd, Nat.reduceEqDiff, reduceCtorEq, Nat.reduceLeDiff, Nat.reduceSub, Nat.reduceMul, Nat.reduceLT, Int.reduceEq, Int.reduceLT, Int.reduceLE, Int.reduceBEq, Int.reduceBNe, Int.reduceToNat, Int.reduceNeg, Int.reduceSub, Int.reduceAdd, hml, hg4, hlive, hbl, htk]
  refine callH (oldest_c hE hz4) ?_
  rintro _ H5 n5 ⟨rfl, hn5, k5⟩
  have hE5 := hE.frame (H' := H5) (n' := n5) hn5 fun j hj => k5 j (hE.lt j hj)
  by_cases hmc : m < c
  · have hlt : ¬ (D.lo : Int) + (m : Int) ≥ z := by omega
    obtain ⟨r, r2, rs, hers⟩ : ∃ r r2 rs, (D.dropped m).eras = r :: r2 :: rs := by
      rw [d1]
      have h1 : m < D.eras.length := by omega
      have h2 : m + 1 < D.eras.length := by omega
      exact ⟨_, _, _, by rw [List.drop_eq_getElem_cons h1, List.drop_eq_getElem_cons h2]⟩
    obtain ⟨l, hl, hth⟩ := hE5.ok.reg r (by rw [hers]; exact List.mem_cons_self)
    have hgetD : (D.dropped m).pool.lands.getD r.region landZ = l := by rw [List.getD_eq_getElem?_getD, hl]; rfl
    obtain ⟨x, hx, hlk, hx1, hx2, hx3⟩ := hE5.entry (k := 0) (r := r) (by rw [hers]; rfl)
    rw [Nat.add_zero, d2] at hlk
    obtain ⟨i, y, g1, g2, g3, g4, hf⟩ := mfind_yes (vA := ptrA) keyOk_intA hlk
    simp only [intA, ptrA, Int.natCast_add] at hf
    have hi0 : i = 0 := by
      obtain ⟨en, hen0⟩ : ∃ en, N4.es[0]? = some en := ⟨_, List.getElem?_eq_getElem (by rw [hE5.esl.1, hers]; simp)⟩
      obtain ⟨x', hx', hk', _⟩ := hE5.es 0 en hen0
      rw [d2] at hk'
      refine (List.getElem?_inj (l := N4.es.map (·.key)) (by rw [List.length_map]; exact (List.getElem?_eq_some_iff.1 g2).1) hE5.lvOk.keys).1 ?_
      rw [List.getElem?_map, List.getElem?_map, g2, hen0, Option.map_some, Option.map_some, g3, hk', Nat.add_zero]
    subst hi0
    obtain ⟨Sp, ⟨PN, p1⟩, p2, p3, p4, p5, p6⟩ := hE5.pool
    have ep5 := hE5.ep
    have lv5 := hE5.lv
    simp only [push_cast, Nat.reduceBEq, Nat.reduceAdd, Nat.reduceEqDiff, reduceCtorEq, Nat.reduceLeDiff, Nat.reduceSub, Nat.reduceMul, Nat.reduceLT, Int.reduceEq, Int.reduceLT, Int.reduceLE, Int.reduceBEq, Int.reduceBNe, Int.reduceToNat, Int.reduceNeg, Int.reduceSub, Int.reduceAdd, hlt, ep5, lv5, hf, g2, g4, hx1]
    refine callHD (free_c p1 hl hth) ?_
    rintro _ H6 n6 ⟨rfl, Sq, q1, hn6, k6⟩
    rw [Hv.contD_at]
    refine ⟨by simp only [push_cast, Nat.reduceBEq, Nat.reduceAdd, Nat.reduceEqDiff, reduceCtorEq, Nat.reduceLeDiff, Nat.reduceSub, Nat.reduceMul, Nat.reduceLT, Int.reduceEq, Int.reduceLT, Int.reduceLE, Int.reduceBEq, Int.reduceBNe, Int.reduceToNat, Int.reduceNeg, Int.reduceSub, Int.reduceAdd], ?_⟩
    have lv6 : H6 N4.lv = _ := (k6 N4.lv (hE5.lt _ hE5.Sp.2.1) p4).1.trans lv5
    have ep6 : H6 e = _ := (k6 e (hE5.lt _ hE5.Sp.1) p3).1.trans ep5
    have hwm := wrap_nat0 (k := m) (by omega)
    simp only [push_cast, Nat.reduceBEq, Nat.reduceAdd, Nat.reduceEqDiff, reduceCtorEq, Nat.reduceLeDiff, Nat.reduceSub, Nat.reduceMul, Nat.reduceLT, Int.reduceEq, Int.reduceLT, Int.reduceLE, Int.reduceBEq, Int.reduceBNe, Int.reduceToNat, Int.reduceNeg, Int.reduceSub, Int.reduceAdd, ep6, lv6, hf, hwm]
    have hnl : ¬ Sq N4.lv := (k6 N4.lv (hE5.lt _ hE5.Sp.2.1) p4).2
    have hD := hE5.dropTo (H' := upd H6 N4.lv (some (.map ((N4.es.map (Ent.me intA ptrA)).eraseIdx 0) N4.lc))) (n' := n6) (Sp := Sp) (Sq := Sq) hers hl p2 p3 p4 p5 p6 (q1.u hnl) hn6 (fun j hj hs hv => by rw [upd_other (Ne.symm hv)]; exact (k6 j hj hs).1) (fun j hj hs => (k6 j hj hs).2) (by rw [upd_same, map_erase]; cases N4.es <;> rfl)
    have hsn := dropped_snoc m D (by omega) r (by rw [hers]; rfl)
    rw [hgetD] at hsn
    rw [← hsn] at hD
    have hg5 : g < n5 := by omega
    have hgSp : ¬ Sp g := fun y => hgS (p2 g y)
    refine ⟨_, by omega, m + 1, _, n6, fun j => S4 j ∨ Sq j, _, rfl, by omega, rfl, hD, by omega, ?_, hNp, ?_, fun j hj hs => ⟨?_, ?_⟩⟩
    · rw [upd_other (fun y => hgS (by rw [← y]; exact hE5.Sp.2.1)), (k6 g hg5 hgSp).1, k5 g (by omega)]
      exact hg4
    · rintro (y | y)
      · exact hgS y
      · exact (k6 g hg5 hgSp).2 y
    · have h4 := (hfr j hj hs).2
      rw [upd_other (fun y => h4 (by rw [← y]; exact hE5.Sp.2.1)), (k6 j (by omega) (fun y => h4 (p2 j y))).1, k5 j (by omega)]
      exact (hfr j hj hs).1
    · have h4 := (hfr j hj hs).2
      rintro (y | y)
      · exact h4 y
      · exact (k6 j (by omega) (fun z => h4 (p2 j z))).2 y
  · obtain rfl : m = c := by omega
    have hge : (D.lo : Int) + (m : Int) ≥ z := by omega
    simp only [push_cast, Nat.reduceBEq, Nat.reduceAdd, Nat.reduceEqDiff, reduceCtorEq, Nat.reduceLeDiff, Nat.reduceSub, Nat.reduceMul, Nat.reduceLT, Int.reduceEq, Int.reduceLT, Int.reduceLE, Int.reduceBEq, Int.reduceBNe, Int.reduceToNat, Int.reduceNeg, Int.reduceSub, Int.reduceAdd, hge]
    exact ⟨rfl, S4, ⟨N4, hE5, hNp⟩, by omega, fun j hj hs => ⟨(k5 j (by omega)).trans (hfr j hj hs).1, (hfr j hj hs).2⟩⟩
end
end Go.Proofs.Ytndojmpgadbefaa
