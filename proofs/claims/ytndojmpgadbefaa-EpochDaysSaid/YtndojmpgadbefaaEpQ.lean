/- Epochs: the next one begins; by the walk over a heap. -/
import Derived.Test.YtndojmpgadbefaaEpO
set_option linter.unusedVariables false
set_option linter.unusedSimpArgs false
namespace Go.Proofs.Ytndojmpgadbefaa
open Go Go.RowKit Hv
set_option maxRecDepth 20000
set_option maxHeartbeats 4000000
/-- The next epoch, with the region i. -/
def EpD.adv (D : EpD) (i : Nat) (l : LandD) : EpD := ⟨D.pool.made i l, D.now + 1, D.last, D.lo, D.eras ++ [⟨i, [], 0, 0⟩], D.pins, D.pc⟩
theorem EpOk.adv {D : EpD} (ok : EpOk D) {i : Nat} {l : LandD} (hl : D.pool.lands[i]? = some l) (hf : l.there = false) (hn : D.now < 1000000000) : EpOk (D.adv i l) := by
  have hne : ∀ r ∈ D.eras, r.region ≠ i := fun r hr e => by
    obtain ⟨l', h1, h2⟩ := ok.reg r hr
    rw [e, hl] at h1
    injection h1 with h1
    rw [← h1, hf] at h2; cases h2
  have hli := (List.getElem?_eq_some_iff.1 hl).1
  refine ⟨?_, ⟨ok.pos.1, .inr (by show D.eras ++ [_] ≠ []; simp)⟩, by show D.now + 1 ≤ _; omega, ok.lastB, ok.pinK, fun x hx => ?_, ok.pinN, fun r hr => ?_, ?_, fun r hr => ?_⟩
  · show D.lo + (D.eras ++ [_]).length = D.now + 1 + 1
    rw [List.length_append]
    have := ok.cnt
    show D.lo + (D.eras.length + 1) = _
    omega
  · have := ok.pinV x hx
    refine ⟨this.1, ?_⟩
    show x.val ≤ ((D.now + 1 : Nat) : Int)
    omega
  · show ∃ l', (D.pool.lands.set i _)[r.region]? = some l' ∧ _
    rcases List.mem_append.1 hr with hr | hr
    · obtain ⟨l', h1, h2⟩ := ok.reg r hr
      exact ⟨l', by rw [List.getElem?_set_ne (Ne.symm (hne r hr))]; exact h1, h2⟩
    · rw [List.mem_singleton.1 hr]
      exact ⟨_, List.getElem?_set_self hli, rfl⟩
  · show ((D.eras ++ [_]).map _).Nodup
    rw [List.map_append, List.nodup_append]
    refine ⟨ok.regN, by simp, fun a ha b hb => ?_⟩
    obtain ⟨r, hr, rfl⟩ := List.mem_map.1 ha
    have hb : b = i := by simpa using hb
    rw [hb]; exact hne r hr
  · rcases List.mem_append.1 hr with hr | hr
    · exact ok.byteB r hr
    · rw [List.mem_singleton.1 hr]; exact Nat.zero_le _
section
variable {H H' : Hp} {n n' e : Nat} {S : Nat → Prop} {D : EpD} {N : EpN}
theorem EpH.noNext (h : EpH H n S e N D) : lookE N.es ((D.now : Int) + 1) = none := lookE_none.2 fun x hx hk => by
  obtain ⟨i, hi⟩ := List.mem_iff_getElem?.1 hx
  obtain ⟨y, _, h1, _⟩ := h.es i x hi
  have hil := (List.getElem?_eq_some_iff.1 hi).1
  rw [h.esl.1] at hil
  have := h.ok.cnt
  rw [h1] at hk
  omega
theorem advance_full (h : EpH H n S e N D) (hb : ∀ l ∈ D.pool.lands, l.there = true) :
    HCalls Try.prog 28 [.ptr e 0] H n fun r H' n' => r = .tup [.lit (.int .i64 0), .lit (.int .i64 5)] ∧ H' = H ∧ n' = n := by
  refine hcallsC_of (rs := [.tmp 2, .tmp 3]) ⟨[0, 2, 3, 4, 5, 7, 17], [], [], [(7, [(0, [], []), (1, [], []), (2, [], []), (3, [], []), (4, [], []), (5, [], []), (6, [], []), (7, [], []), (8, [], []), (9, [3, 7], []), (10, [], []), (11, [3, 7], [10, 8, 9]), (12, [], [3, 7, 11, 0, 1, 2, 4, 5, 6, 8, 9, 10])])], []⟩ TOk mixed Try.func28 rfl rfl (by kernel_rfl) (by kernel_rfl) rfl ?_
  have ep := h.ep
  obtain ⟨Sp, ⟨PN, p1⟩, p2, p3, p4, p5, p6⟩ := h.pool
  simp only [push_cast, Nat.reduceBEq, Nat.reduceAdd, Nat.reduceEqDiff, reduceCtorEq, Nat.reduceLeDiff, Nat.reduceSub, Nat.reduceMul, Nat.reduceLT, Int.reduceEq, Int.reduceLT, Int.reduceLE, Int.reduceBEq, Int.reduceBNe, Int.reduceToNat, Int.reduceNeg, Int.reduceSub, Int.reduceAdd]
  refine callH (none_h ep) ?_
  rintro _ H n ⟨rfl, rfl, rfl⟩
  simp only [push_cast, Nat.reduceBEq, Nat.reduceAdd, Nat.reduceEqDiff, reduceCtorEq, Nat.reduceLeDiff, Nat.reduceSub, Nat.reduceMul, Nat.reduceLT, Int.reduceEq, Int.reduceLT, Int.reduceLE, Int.reduceBEq, Int.reduceBNe, Int.reduceToNat, Int.reduceNeg, Int.reduceSub, Int.reduceAdd, ep]
  refine callH (make_full p1 hb) ?_
  rintro _ H n ⟨rfl, rfl, rfl⟩
  simp only [push_cast, Nat.reduceBEq, Nat.reduceAdd, Nat.reduceEqDiff, reduceCtorEq, Nat.reduceLeDiff, Nat.reduceSub, Nat.reduceMul, Nat.reduceLT, Int.reduceEq, Int.reduceLT, Int.reduceLE, Int.reduceBEq, Int.reduceBNe, Int.reduceToNat, Int.reduceNeg, Int.reduceSub, Int.reduceAdd]
theorem advance_c (h : EpH H n S e N D) {i : Nat} {l : LandD} (hl : D.pool.lands[i]? = some l) (hf : l.there = false) (hb : ∀ (j : Nat) (l : LandD), j < i → D.pool.lands[j]? = some l → l.there = true) (hg : l.gen ≤ 1000000000) (hnow : D.now < 1000000000) :
    HCalls Try.prog 28 [.ptr e 0] H n (EpP H n S e N.p (D.adv i l) (.tup [.lit (.int .i64 ((D.now + 1 : Nat) : Int)), .lit (.int .i64 0)])) := by
  refine hcallsC_of (rs := [.tmp 2, .tmp 3]) ⟨[0, 2, 3, 4, 5, 7, 17], [], [], [(7, [(0, [], []), (1, [], []), (2, [], []), (3, [], []), (4, [], []), (5, [], []), (6, [], []), (7, [], []), (8, [], []), (9, [3, 7], []), (10, [], []), (11, [3, 7], [10, 8, 9]), (12, [], [3, 7, 11, 0, 1, 2, 4, 5, 6, 8, 9, 10])])], []⟩ TOk mixed Try.func28 rfl rfl (by kernel_rfl) (by kernel_rfl) rfl ?_
  have ep := h.ep
  have lv := h.lv
  have hen := h.lt e h.Sp.1
  have hln := h.lt N.lv h.Sp.2.1
  have hpn := h.lt N.pn h.Sp.2.2.1
  obtain ⟨n1, n2, n3⟩ := h.nes
  obtain ⟨Sp, ⟨PN, p1⟩, p2, p3, p4, p5, p6⟩ := h.pool
  have hf0 := mfind_no (vA := ptrA) keyOk_intA h.noNext
  simp only [intA] at hf0
  have hw := IntWalk.i64_in ((D.now : Int) + 1) (by omega)
  simp only [push_cast, Nat.reduceBEq, Nat.reduceAdd, Nat.reduceEqDiff, reduceCtorEq, Nat.reduceLeDiff, Nat.reduceSub, Nat.reduceMul, Nat.reduceLT, Int.reduceEq, Int.reduceLT, Int.reduceLE, Int.reduceBEq, Int.reduceBNe, Int.reduceToNat, Int.reduceNeg, Int.reduceSub, Int.reduceAdd]
  refine callH (none_h ep) ?_
  rintro _ H n ⟨rfl, rfl, rfl⟩
  simp only [push_cast, Nat.reduceBEq, Nat.reduceAdd, Nat.reduceEqDiff, reduceCtorEq, Nat.reduceLeDiff, Nat.reduceSub, Nat.reduceMul, Nat.reduceLT, Int.reduceEq, Int.reduceLT, Int.reduceLE, Int.reduceBEq, Int.reduceBNe, Int.reduceToNat, Int.reduceNeg, Int.reduceSub, Int.reduceAdd, ep]
  refine callH (make_c p1 hl hf hb hg) ?_
  rintro _ H6 n6 ⟨rfl, Sq, q1, hn6, k6⟩
  have ep6 := (k6 e hen p3).1.trans ep
  have lv6 := (k6 N.lv hln p4).1.trans lv
  have c1 := nb n1
  have c2 := nb (Ne.symm n1)
  have c3 : (n6 == e) = false := nb (by omega)
  have c4 : (n6 + 1 == e) = false := nb (by omega)
  have c5 : (n6 == N.lv) = false := nb (by omega)
  have c6 : (n6 + 1 == N.lv) = false := nb (by omega)
  simp only [push_cast, Nat.reduceBEq, Nat.reduceAdd, Nat.reduceEqDiff, reduceCtorEq, Nat.reduceLeDiff, Nat.reduceSub, Nat.reduceMul, Nat.reduceLT, Int.reduceEq, Int.reduceLT, Int.reduceLE, Int.reduceBEq, Int.reduceBNe, Int.reduceToNat, Int.reduceNeg, Int.reduceSub, Int.reduceAdd, ep6, lv6, hw, hf0, c1, c2, c3, c4, c5, c6]
  obtain ⟨H8, hH8⟩ : ∃ H8, H8 = upd (upd (upd (upd H6 e (some (.cells [.ptr N.p 0, .lit (.int .i64 ((D.now : Int) + 1)), .mp N.lv, .mp N.pn, .lit (.int .i64 (D.last : Int)), .lit (.bool false)]))) n6 (some (.map [] 0))) (n6 + 1) (some (.cells [.lit (.int .i64 (i : Int)), .mp n6, .lit (.int .i64 0)]))) N.lv (some (.map (N.es.map (Ent.me intA ptrA) ++ [⟨.lit (.int .i64 ((D.now : Int) + 1)), .ptr (n6 + 1) 0, N.lc⟩]) (N.lc + 1))) := ⟨_, rfl⟩
  rw [← hH8]
  have e1 : H8 e = some (.cells [.ptr N.p 0, .lit (.int .i64 ((D.now : Int) + 1)), .mp N.lv, .mp N.pn, .lit (.int .i64 (D.last : Int)), .lit (.bool false)]) := by rw [hH8, upd_other (Ne.symm n1), upd_other (by omega), upd_other (by omega), upd_same]
  have e2 : H8 n6 = some (.map [] 0) := by rw [hH8, upd_other (by omega), upd_other (by omega), upd_same]
  have e3 : H8 (n6 + 1) = some (.cells [.lit (.int .i64 (i : Int)), .mp n6, .lit (.int .i64 0)]) := by rw [hH8, upd_other (by omega), upd_same]
  have e4 : H8 N.lv = some (.map (N.es.map (Ent.me intA ptrA) ++ [⟨.lit (.int .i64 ((D.now : Int) + 1)), .ptr (n6 + 1) 0, N.lc⟩]) (N.lc + 1)) := by rw [hH8, upd_same]
  have e5 : ∀ j, j ≠ e → j ≠ N.lv → j < n6 → H8 j = H6 j := fun j h1 h2 h3 => by rw [hH8, upd_other (Ne.symm h2), upd_other (by omega), upd_other (by omega), upd_other (Ne.symm h1)]
  clear hH8
  have e6 : ∀ j, S j → ¬ Sp j → j ≠ e → j ≠ N.lv → H8 j = H j := fun j hj hs h1 h2 => (e5 j h1 h2 (Nat.lt_of_lt_of_le (h.lt j hj) hn6)).trans (k6 j (h.lt j hj) hs).1
  have nS : ∀ j, j < n → ¬ Sp j → ¬ Sq j := fun j hj hs => (k6 j hj hs).2
  have hpo := h.lvOk.put ((D.now : Int) + 1) (n6 + 1)
  rw [put_new _ h.noNext] at hpo
  refine ⟨rfl, fun j => S j ∨ Sq j ∨ j = n6 ∨ j = n6 + 1, ⟨⟨N.p, N.lv, N.pn, N.ps ++ [(n6 + 1, n6)], N.es ++ [⟨(D.now : Int) + 1, n6 + 1, N.lc⟩], N.lc + 1⟩, ?_, rfl⟩, by omega, fun j hj hs => ⟨?_, ?_⟩⟩
  · refine ⟨e1, ⟨Sq, q1.frame (by omega) fun j hj => e5 j (fun x => nS e hen p3 (x ▸ hj)) (fun x => nS N.lv hln p4 (x ▸ hj)) (q1.lt j hj), fun j hj => .inr (.inl hj), nS e hen p3, nS N.lv hln p4, nS N.pn hpn p5, fun x hx => ?_⟩, ?_, hpo, ?_, h.pnOk, fun k x r h1 h2 => ?_, ?_, fun k en h1 => ?_, ⟨?_, ?_⟩, ⟨.inl h.Sp.1, .inl h.Sp.2.1, .inl h.Sp.2.2.1, fun x hx => ?_⟩, ⟨h.ne.1, fun x hx => ?_⟩, fun j hj => ?_, h.ok.adv hl hf hnow⟩
    · rcases List.mem_append.1 hx with hx | hx
      · obtain ⟨s1, s2⟩ := h.Sp.2.2.2 x hx
        exact ⟨nS _ (h.lt _ s1) (p6 x hx).1, nS _ (h.lt _ s2) (p6 x hx).2⟩
      · rw [List.mem_singleton.1 hx]
        exact ⟨fun hs => by have := q1.lt _ hs; omega, fun hs => by have := q1.lt _ hs; omega⟩
    · rw [e4, List.map_append]; rfl
    · exact (e6 N.pn h.Sp.2.2.1 p5 (Ne.symm n2) (Ne.symm h.ne.1)).trans h.pn
    · by_cases hk : k < N.ps.length
      · rw [List.getElem?_append_left hk] at h1
        rw [show (D.adv i l).eras[k]? = D.eras[k]? from List.getElem?_append_left (by rw [← h.esl.2]; exact hk)] at h2
        obtain ⟨a1, a2, a3⟩ := h.er k x r h1 h2
        have hx := List.mem_of_getElem? h1
        obtain ⟨m1, m2, m3, m4⟩ := n3 x hx
        obtain ⟨s1, s2⟩ := h.Sp.2.2.2 x hx
        exact ⟨(e6 _ s1 (p6 x hx).1 m1 m2).trans a1, (e6 _ s2 (p6 x hx).2 m4 (h.ne.2 x hx).1).trans a2, a3⟩
      · have hkl := (List.getElem?_eq_some_iff.1 h1).1
        rw [List.length_append] at hkl
        have hke : k = N.ps.length := by simp at hkl; omega
        rw [hke, List.getElem?_concat_length] at h1
        rw [show (D.adv i l).eras[k]? = (D.eras ++ [⟨i, [], 0, 0⟩])[k]? from rfl, hke, h.esl.2, List.getElem?_concat_length] at h2
        injection h1 with h1
        injection h2 with h2
        subst h1 h2
        exact ⟨e3, e2, MapOk.nil⟩
    · show (N.es ++ [_]).length = (D.eras ++ [_]).length ∧ (N.ps ++ [_]).length = (D.eras ++ [_]).length
      simp only [List.length_append, h.esl.1, h.esl.2]
      exact ⟨rfl, rfl⟩
    · show ∃ x, (N.ps ++ [(n6 + 1, n6)])[k]? = some x ∧ _
      by_cases hk : k < N.es.length
      · rw [show (N.es ++ [_])[k]? = N.es[k]? from List.getElem?_append_left hk] at h1
        obtain ⟨x, a1, a2, a3⟩ := h.es k en h1
        exact ⟨x, by rw [List.getElem?_append_left (by rw [h.esl.2, ← h.esl.1]; exact hk)]; exact a1, a2, a3⟩
      · have hkl := (List.getElem?_eq_some_iff.1 h1).1
        rw [List.length_append] at hkl
        have hke : k = N.es.length := by simp at hkl; omega
        rw [hke, List.getElem?_concat_length] at h1
        injection h1 with h1
        subst h1
        refine ⟨(n6 + 1, n6), by rw [hke, h.esl.1, ← h.esl.2, List.getElem?_concat_length], ?_, rfl⟩
        have := h.ok.cnt
        show (D.now : Int) + 1 = ((D.lo + k : Nat) : Int)
        rw [hke, h.esl.1]
        omega
    · rw [List.map_append, List.nodup_append]
      refine ⟨h.nd.1, by simp, fun a ha b hb => ?_⟩
      obtain ⟨x, hx, rfl⟩ := List.mem_map.1 ha
      have hb : b = n6 + 1 := by simpa using hb
      have := h.lt _ (h.Sp.2.2.2 x hx).1
      omega
    · rw [List.map_append, List.nodup_append]
      refine ⟨h.nd.2, by simp, fun a ha b hb => ?_⟩
      obtain ⟨x, hx, rfl⟩ := List.mem_map.1 ha
      have hb : b = n6 := by simpa using hb
      have := h.lt _ (h.Sp.2.2.2 x hx).2
      omega
    · rcases List.mem_append.1 hx with hx | hx
      · obtain ⟨s1, s2⟩ := h.Sp.2.2.2 x hx
        exact ⟨.inl s1, .inl s2⟩
      · rw [List.mem_singleton.1 hx]
        exact ⟨.inr (.inr (.inr rfl)), .inr (.inr (.inl rfl))⟩
    · rcases List.mem_append.1 hx with hx | hx
      · exact h.ne.2 x hx
      · rw [List.mem_singleton.1 hx]
        exact ⟨by show n6 ≠ N.lv; omega, by show n6 ≠ N.pn; omega⟩
    · rcases hj with hj | hj | hj | hj
      · have := h.lt j hj; omega
      · have := q1.lt j hj; omega
      · omega
      · omega
  · have hsp : ¬ Sp j := fun x => hs (p2 j x)
    exact (e5 j (fun x => hs (x ▸ h.Sp.1)) (fun x => hs (x ▸ h.Sp.2.1)) (by omega)).trans (k6 j hj hsp).1
  · rintro (x | x | x | x)
    · exact hs x
    · exact nS j hj (fun x => hs (p2 j x)) x
    · omega
    · omega
end
end Go.Proofs.Ytndojmpgadbefaa
