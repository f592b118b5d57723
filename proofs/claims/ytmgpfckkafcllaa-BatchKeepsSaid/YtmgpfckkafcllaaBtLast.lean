/- Chapter 9: batch.Last, by the walk over a heap. -/
import Derived.Test.YtmgpfckkafcllaaBtOps
set_option linter.unusedVariables false
set_option linter.unusedSimpArgs false
namespace Go.Proofs.Ytmgpfckkafcllaa
open Go Go.RowKit Hv
set_option maxRecDepth 20000
set_option maxHeartbeats 4000000
def opA (o : OpD) : AV := .agg (opI o)
def mapA (d : List OpE × Nat) : AO := .map (d.1.map (Ent.me strA opA)) d.2
theorem put_me {d : List OpE × Nat} {k : ByteArray} {o : OpD} (h : lookE d.1 k = none) : mapA (putE d.1 d.2 k o) = .map (d.1.map (Ent.me strA opA) ++ [⟨strA k, opA o, d.2⟩]) (d.2 + 1) := by
  rw [put_new o h]
  unfold mapA
  rw [List.map_append]; rfl
theorem put_me' {d : List OpE × Nat} {k : ByteArray} {o : OpD} {j : Nat} {x : OpE} (hf : findE d.1 k = some j) (hx : d.1[j]? = some x) : mapA (putE d.1 d.2 k o) = .map ((d.1.map (Ent.me strA opA)).set j ⟨strA k, opA o, x.born⟩) d.2 := by
  rw [put_old o hf hx]
  unfold mapA
  rw [List.map_set]; rfl
theorem mapL_take {ops : List OpD} {k : Nat} {o : OpD} (h : ops[k]? = some o) : mapL (ops.take (k + 1)) = putE (mapL (ops.take k)).1 (mapL (ops.take k)).2 o.key o := by
  unfold mapL
  rw [List.take_add_one, h, List.foldl_append]; rfl
theorem mapL_keys (ops : List OpD) : ∀ e ∈ (mapL ops).1, ∃ o ∈ ops, o.key = e.key := by
  intro e he
  obtain ⟨o, ho, hk⟩ := last_key (ops := ops) (List.mem_map.2 ⟨e, he, rfl⟩)
  rw [mapL_at] at ho
  exact ⟨o, (lastOf_key ho).2, hk⟩
theorem mapL_len (ops : List OpD) (d : List OpE × Nat) : (ops.foldl (fun d o => putE d.1 d.2 o.key o) d).1.length ≤ d.1.length + ops.length := by
  induction ops generalizing d with
  | nil => exact Nat.le_refl _
  | cons o ops ih =>
    have h := ih (putE d.1 d.2 o.key o)
    have h2 := len_put (es := d.1) (clock := d.2) o.key o
    rw [List.foldl_cons, List.length_cons]
    split at h2 <;> omega
/-- A row of changes just laid. -/
def NewOps (H : Hp) (n : Nat) (l : List OpD) (r : AV) (H' : Hp) (n' : Nat) : Prop := ∃ g, r = .rw g 3 0 l.length ∧ n ≤ g ∧ g < n' ∧ H' g = some (.row false 24 (l.map opI)) ∧ ∀ j, j < n → H' j = H j
theorem Last_s {H : Hp} {n : Nat} (ops : List OpD) (hl : ops.length ≤ 1000000) (hs : ∀ o ∈ ops, o.key.size ≤ 140737488355328) :
    HCalls Try.prog 22 [.sl (ops.map opI)] H n (NewOps H n (docLast ops)) := by
  refine hcallsC_of (rs := [.tmp 2]) ⟨[0, 2, 3, 5, 6, 8, 10, 11, 12, 13, 23, 24, 25, 26], [], [], [], [], []⟩ TOk mixed Try.func22 rfl rfl (by kernel_rfl) (by kernel_rfl) rfl ?_
  simp only [push_cast, Nat.reduceBEq, Nat.reduceAdd, Nat.reduceEqDiff, reduceCtorEq, Nat.reduceLeDiff, Nat.reduceSub, Nat.reduceMul, Nat.reduceLT, Int.reduceEq, Int.reduceLT, Int.reduceLE, Int.reduceBEq, Int.reduceBNe, Int.reduceToNat, Int.reduceNeg, Int.reduceSub, Int.reduceAdd]
  refine loopK (fun q s => ∃ (k : Nat) (Hc : Hp) (nn : Nat), s = ⟨[(3, .mp (n + 1)), (10, .sl (ops.map opI)), (11, .lit (.int .i64 (ops.length : Int))), (12, .lit (.int .i64 (k : Int)))], Hc, nn⟩ ∧ k ≤ ops.length ∧ q = ops.length - k ∧ Hc (n + 1) = some (mapA (mapL (ops.take k))) ∧ n + 2 ≤ nn ∧ ∀ j, j < n → Hc j = H j) _ [3, 10, 11, 12] ⟨0, _, _, rfl, Nat.zero_le _, rfl, upd_same _ _ _, Nat.le_refl _, fun j hj => (upd_other (by omega)).trans (upd_other (by omega))⟩ ?_
  rintro q _ ⟨k, Hc, nn, rfl, hk, rfl, hm, hn, hh⟩
  by_cases h : k < ops.length
  · obtain ⟨o, ho⟩ : ∃ o, ops[k]? = some o := ⟨_, List.getElem?_eq_getElem h⟩
    have hw := wrap_nat0 (k := k) (by omega)
    have h' : (k : Int) < (ops.length : Int) := by omega
    have hm' := hm
    unfold mapA at hm'
    have e1 : (nn == n + 1) = false := nb (by omega)
    have e2 : (nn == nn) = true := beq_self_eq_true nn
    cases hlk : lookE (mapL (ops.take k)).1 o.key with
    | none =>
      have hf := mfind_no (vA := opA) keyOk_strA hlk
      simp only [strA] at hf
      simp only [push_cast, Nat.reduceBEq, Nat.reduceAdd, Nat.reduceEqDiff, reduceCtorEq, Nat.reduceLeDiff, Nat.reduceSub, Nat.reduceMul, Nat.reduceLT, Int.reduceEq, Int.reduceLT, Int.reduceLE, Int.reduceBEq, Int.reduceBNe, Int.reduceToNat, Int.reduceNeg, Int.reduceSub, Int.reduceAdd, h, h', ho, opI, hw, hm', hf, e1, e2]
      refine ⟨_, by omega, k + 1, _, _, rfl, by omega, rfl, ?_, by omega, fun j hj => ?_⟩
      · rw [upd_same, mapL_take ho]; exact congrArg some (put_me hlk).symm
      · rw [upd_other (by omega), upd_other (by omega), upd_other (by omega)]; exact hh j hj
    | some v =>
      obtain ⟨j0, x, hfe, hx, _, _, hf⟩ := mfind_yes (vA := opA) keyOk_strA hlk
      simp only [strA] at hf
      simp only [push_cast, Nat.reduceBEq, Nat.reduceAdd, Nat.reduceEqDiff, reduceCtorEq, Nat.reduceLeDiff, Nat.reduceSub, Nat.reduceMul, Nat.reduceLT, Int.reduceEq, Int.reduceLT, Int.reduceLE, Int.reduceBEq, Int.reduceBNe, Int.reduceToNat, Int.reduceNeg, Int.reduceSub, Int.reduceAdd, h, h', ho, opI, hw, hm', hf, hx, e1, e2]
      refine ⟨_, by omega, k + 1, _, _, rfl, by omega, rfl, ?_, by omega, fun j hj => ?_⟩
      · rw [upd_same, mapL_take ho]; exact congrArg some (put_me' hfe hx).symm
      · rw [upd_other (by omega), upd_other (by omega), upd_other (by omega)]; exact hh j hj
  · obtain rfl : k = ops.length := by omega
    rw [List.take_length] at hm
    have hok := mapL_ok ops ([], 0) MapOk.nil
    have hlm : (mapL ops).1.length ≤ ops.length := by have h3 := mapL_len ops ([], 0); have h4 : (mapL ops).1.length ≤ 0 + ops.length := h3; omega
    have hks : ∀ e ∈ (mapL ops).1, e.key.size ≤ 140737488355328 := fun e he => by
      obtain ⟨o, ho, hk⟩ := mapL_keys ops e he
      rw [← hk]; exact hs o ho
    have hkl : (mapL ops).1.map (·.key) = [] → docLast ops = [] := fun hz => by
      rw [← last_eq]; unfold lastL; rw [hz, List.eq_nil_of_length_eq_zero (sortK_len [])]; rfl
    obtain ⟨SK, hSK⟩ : ∃ SK, sortK ((mapL ops).1.map (·.key)) = SK := ⟨_, rfl⟩
    have hSl : SK.length = (mapL ops).1.length := by rw [← hSK, sortK_len, List.length_map]
    have hlt : ∀ {j : Nat} {k : ByteArray}, SK[j]? = some k → ∃ o, lookE (mapL ops).1 k = some o ∧ (SK.take (j + 1)).filterMap (fun k => lookE (mapL ops).1 k) = (SK.take j).filterMap (fun k => lookE (mapL ops).1 k) ++ [o] := fun {j k} hj => by subst hSK; exact last_take ops hj
    have hfin : SK.filterMap (fun k => lookE (mapL ops).1 k) = docLast ops := by subst hSK; exact last_eq ops
    simp only [push_cast, Nat.reduceBEq, Nat.reduceAdd, Nat.reduceEqDiff, reduceCtorEq, Nat.reduceLeDiff, Nat.reduceSub, Nat.reduceMul, Nat.reduceLT, Int.reduceEq, Int.reduceLT, Int.reduceLE, Int.reduceBEq, Int.reduceBNe, Int.reduceToNat, Int.reduceNeg, Int.reduceSub, Int.reduceAdd, h]
    refine callH keysOf_h ?_
    rintro _ _ _ ⟨rfl, rfl, rfl⟩
    simp only [push_cast, Nat.reduceBEq, Nat.reduceAdd, Nat.reduceEqDiff, reduceCtorEq, Nat.reduceLeDiff, Nat.reduceSub, Nat.reduceMul, Nat.reduceLT, Int.reduceEq, Int.reduceLT, Int.reduceLE, Int.reduceBEq, Int.reduceBNe, Int.reduceToNat, Int.reduceNeg, Int.reduceSub, Int.reduceAdd]
    have hm1 : upd (upd Hc nn (some (.row false 24 []))) (nn + 1) (some (.cells [.mp (n + 1)])) (n + 1) = some (.map ((mapL ops).1.map (Ent.me strA opA)) (mapL ops).2) := by rw [upd_other (by omega), upd_other (by omega)]; exact hm
    refine callH (sortedKeys_h (es := (mapL ops).1) (vA := opA) hm1 (upd_same _ _ _) hok hks (by omega)) ?_
    rintro _ H2 n2 (⟨rfl, hz, rfl, rfl⟩ | ⟨rfl, rfl, rfl⟩)
    · have hd := hkl (by rw [hz]; rfl)
      simp only [push_cast, Nat.reduceBEq, Nat.reduceAdd, Nat.reduceEqDiff, reduceCtorEq, Nat.reduceLeDiff, Nat.reduceSub, Nat.reduceMul, Nat.reduceLT, Int.reduceEq, Int.reduceLT, Int.reduceLE, Int.reduceBEq, Int.reduceBNe, Int.reduceToNat, Int.reduceNeg, Int.reduceSub, Int.reduceAdd]
      refine loopK (fun q s => q = 0 ∧ s = ⟨[(6, .rw nn 3 0 0), (24, .lit (.int .i64 0)), (25, .lit (.int .i64 0))], upd (upd Hc nn (some (.row false 24 []))) (nn + 1) (some (.cells [.mp (n + 1)])), nn + 1 + 1⟩) _ [6, 24, 25] ⟨rfl, rfl⟩ ?_
      rintro q _ ⟨rfl, rfl⟩
      simp only [push_cast, Nat.reduceBEq, Nat.reduceAdd, Nat.reduceEqDiff, reduceCtorEq, Nat.reduceLeDiff, Nat.reduceSub, Nat.reduceMul, Nat.reduceLT, Int.reduceEq, Int.reduceLT, Int.reduceLE, Int.reduceBEq, Int.reduceBNe, Int.reduceToNat, Int.reduceNeg, Int.reduceSub, Int.reduceAdd]
      rw [hd]
      exact ⟨nn, rfl, by omega, by omega, (upd_other (by omega)).trans (upd_same _ _ _), fun j hj => (upd_other (by omega)).trans ((upd_other (by omega)).trans (hh j hj))⟩
    · rw [hSK, ← hSl]
      simp only [push_cast, Nat.reduceBEq, Nat.reduceAdd, Nat.reduceEqDiff, reduceCtorEq, Nat.reduceLeDiff, Nat.reduceSub, Nat.reduceMul, Nat.reduceLT, Int.reduceEq, Int.reduceLT, Int.reduceLE, Int.reduceBEq, Int.reduceBNe, Int.reduceToNat, Int.reduceNeg, Int.reduceSub, Int.reduceAdd]
      refine loopK (fun q s => ∃ (j g : Nat) (L : List OpD) (Hq : Hp) (nq : Nat), s = ⟨[(3, .mp (n + 1)), (6, .rw g 3 0 L.length), (23, .rw (nn + 1 + 1) 1 0 SK.length), (24, .lit (.int .i64 (SK.length : Int))), (25, .lit (.int .i64 (j : Int)))], Hq, nq⟩ ∧ j ≤ SK.length ∧ q = SK.length - j ∧ L = (SK.take j).filterMap (fun k => lookE (mapL ops).1 k) ∧ Hq g = some (.row false 24 (L.map opI)) ∧ Hq (n + 1) = some (.map ((mapL ops).1.map (Ent.me strA opA)) (mapL ops).2) ∧ Hq (nn + 1 + 1) = some (.row true 9 (SK.map strI)) ∧ (nn ≤ g ∧ g < nq ∧ g ≠ nn + 1 + 1 ∧ nn + 1 + 1 < nq) ∧ L.length ≤ j ∧ ∀ t, t < n → Hq t = H t) _ [3, 6, 23, 24, 25] ⟨0, nn, [], _, nn + 1 + 1 + 1, rfl, Nat.zero_le _, rfl, rfl, (upd_other (by omega)).trans ((upd_other (by omega)).trans (upd_same _ _ _)), (upd_other (by omega)).trans hm1, upd_same _ _ _, by omega, Nat.le_refl _, fun t ht => (upd_other (by omega)).trans ((upd_other (by omega)).trans ((upd_other (by omega)).trans (hh t ht)))⟩ ?_
      rintro q _ ⟨j, g, L, Hq, nq, rfl, hj, rfl, hL, hg, hmq, hrq, ⟨hg1, hg2, hg3, hg4⟩, hLj, hq⟩
      by_cases hjs : j < SK.length
      · obtain ⟨kk, hkk⟩ : ∃ kk, SK[j]? = some kk := ⟨_, List.getElem?_eq_getElem hjs⟩
        obtain ⟨o, ho, htk⟩ := hlt hkk
        obtain ⟨j0, x, hfe, hx, _, _, hf⟩ := mfind_yes (vA := opA) keyOk_strA ho
        simp only [strA] at hf
        have hw := wrap_nat0 (k := j) (by omega)
        have hjs' : (j : Int) < (SK.length : Int) := by omega
        have e1 : (nq == g) = false := nb (by omega)
        have e2 : (nq == n + 1) = false := nb (by omega)
        have e3 : (nq == nn + 1 + 1) = false := nb (by omega)
        have hb40 : (L.length + 1) * 40 ≤ 140737488355328 := by omega
        have hlen : L.length + 1 = (L ++ [o]).length := by rw [List.length_append]; rfl
        have hnw : L.map opI ++ [opI o] = (L ++ [o]).map opI := by rw [List.map_append]; rfl
        simp only [push_cast, Nat.reduceBEq, Nat.reduceAdd, Nat.reduceEqDiff, reduceCtorEq, Nat.reduceLeDiff, Nat.reduceSub, Nat.reduceMul, Nat.reduceLT, Int.reduceEq, Int.reduceLT, Int.reduceLE, Int.reduceBEq, Int.reduceBNe, Int.reduceToNat, Int.reduceNeg, Int.reduceSub, Int.reduceAdd, hjs, hjs', hkk, hrq, hmq, hf, hx, hg, e1, e2, e3, strI, strA, opA, opI, ops_ble, ops_take, List.length_map, hw, hb40]
        refine ⟨_, by omega, j + 1, nq + 1, L ++ [o], _, _, by rw [← hlen]; rfl, by omega, rfl, ?_, ?_, ?_, ?_, by omega, by rw [← hlen]; omega, fun t ht => ?_⟩
        · rw [htk, ← hL]
        · rw [upd_same, ← hnw]; rfl
        · rw [upd_other (by omega), upd_other (by omega), upd_other (by omega)]; exact hmq
        · rw [upd_other (by omega), upd_other (by omega), upd_other (by omega)]; exact hrq
        · rw [upd_other (by omega), upd_other (by omega), upd_other (by omega)]; exact hq t ht
      · obtain rfl : j = SK.length := by omega
        rw [List.take_length, hfin] at hL
        simp only [push_cast, Nat.reduceBEq, Nat.reduceAdd, Nat.reduceEqDiff, reduceCtorEq, Nat.reduceLeDiff, Nat.reduceSub, Nat.reduceMul, Nat.reduceLT, Int.reduceEq, Int.reduceLT, Int.reduceLE, Int.reduceBEq, Int.reduceBNe, Int.reduceToNat, Int.reduceNeg, Int.reduceSub, Int.reduceAdd, hjs]
        rw [hL] at hg ⊢
        exact ⟨g, rfl, by omega, hg2, hg, hq⟩
theorem Last_r {H : Hp} {n : Nat} (ops : List OpD) {r0 : Nat} (hr0 : r0 < n) (hg0 : H r0 = some (.row false 24 (ops.map opI))) (hl : ops.length ≤ 1000000) (hs : ∀ o ∈ ops, o.key.size ≤ 140737488355328) :
    HCalls Try.prog 22 [.rw r0 3 0 ops.length] H n (NewOps H n (docLast ops)) := by
  refine hcallsC_of (rs := [.tmp 2]) ⟨[0, 2, 3, 5, 6, 8, 10, 11, 12, 13, 23, 24, 25, 26], [], [], [], [], []⟩ TOk mixed Try.func22 rfl rfl (by kernel_rfl) (by kernel_rfl) rfl ?_
  simp only [push_cast, Nat.reduceBEq, Nat.reduceAdd, Nat.reduceEqDiff, reduceCtorEq, Nat.reduceLeDiff, Nat.reduceSub, Nat.reduceMul, Nat.reduceLT, Int.reduceEq, Int.reduceLT, Int.reduceLE, Int.reduceBEq, Int.reduceBNe, Int.reduceToNat, Int.reduceNeg, Int.reduceSub, Int.reduceAdd]
  refine loopK (fun q s => ∃ (k : Nat) (Hc : Hp) (nn : Nat), s = ⟨[(3, .mp (n + 1)), (10, .rw r0 3 0 ops.length), (11, .lit (.int .i64 (ops.length : Int))), (12, .lit (.int .i64 (k : Int)))], Hc, nn⟩ ∧ k ≤ ops.length ∧ q = ops.length - k ∧ Hc (n + 1) = some (mapA (mapL (ops.take k))) ∧ n + 2 ≤ nn ∧ ∀ j, j < n → Hc j = H j) _ [3, 10, 11, 12] ⟨0, _, _, rfl, Nat.zero_le _, rfl, upd_same _ _ _, Nat.le_refl _, fun j hj => (upd_other (by omega)).trans (upd_other (by omega))⟩ ?_
  rintro q _ ⟨k, Hc, nn, rfl, hk, rfl, hm, hn, hh⟩
  by_cases h : k < ops.length
  · obtain ⟨o, ho⟩ : ∃ o, ops[k]? = some o := ⟨_, List.getElem?_eq_getElem h⟩
    have hw := wrap_nat0 (k := k) (by omega)
    have h' : (k : Int) < (ops.length : Int) := by omega
    have hm' := hm
    unfold mapA at hm'
    have e1 : (nn == n + 1) = false := nb (by omega)
    have e2 : (nn == nn) = true := beq_self_eq_true nn
    have hgc := (hh r0 hr0).trans hg0
    cases hlk : lookE (mapL (ops.take k)).1 o.key with
    | none =>
      have hf := mfind_no (vA := opA) keyOk_strA hlk
      simp only [strA] at hf
      simp only [push_cast, Nat.reduceBEq, Nat.reduceAdd, Nat.reduceEqDiff, reduceCtorEq, Nat.reduceLeDiff, Nat.reduceSub, Nat.reduceMul, Nat.reduceLT, Int.reduceEq, Int.reduceLT, Int.reduceLE, Int.reduceBEq, Int.reduceBNe, Int.reduceToNat, Int.reduceNeg, Int.reduceSub, Int.reduceAdd, h, h', ho, opI, hw, hm', hf, e1, e2, hgc, ops_ble, ops_take]
      refine ⟨_, by omega, k + 1, _, _, rfl, by omega, rfl, ?_, by omega, fun j hj => ?_⟩
      · rw [upd_same, mapL_take ho]; exact congrArg some (put_me hlk).symm
      · rw [upd_other (by omega), upd_other (by omega), upd_other (by omega)]; exact hh j hj
    | some v =>
      obtain ⟨j0, x, hfe, hx, _, _, hf⟩ := mfind_yes (vA := opA) keyOk_strA hlk
      simp only [strA] at hf
      simp only [push_cast, Nat.reduceBEq, Nat.reduceAdd, Nat.reduceEqDiff, reduceCtorEq, Nat.reduceLeDiff, Nat.reduceSub, Nat.reduceMul, Nat.reduceLT, Int.reduceEq, Int.reduceLT, Int.reduceLE, Int.reduceBEq, Int.reduceBNe, Int.reduceToNat, Int.reduceNeg, Int.reduceSub, Int.reduceAdd, h, h', ho, opI, hw, hm', hf, hx, e1, e2, hgc, ops_ble, ops_take]
      refine ⟨_, by omega, k + 1, _, _, rfl, by omega, rfl, ?_, by omega, fun j hj => ?_⟩
      · rw [upd_same, mapL_take ho]; exact congrArg some (put_me' hfe hx).symm
      · rw [upd_other (by omega), upd_other (by omega), upd_other (by omega)]; exact hh j hj
  · obtain rfl : k = ops.length := by omega
    rw [List.take_length] at hm
    have hok := mapL_ok ops ([], 0) MapOk.nil
    have hlm : (mapL ops).1.length ≤ ops.length := by have h3 := mapL_len ops ([], 0); have h4 : (mapL ops).1.length ≤ 0 + ops.length := h3; omega
    have hks : ∀ e ∈ (mapL ops).1, e.key.size ≤ 140737488355328 := fun e he => by
      obtain ⟨o, ho, hk⟩ := mapL_keys ops e he
      rw [← hk]; exact hs o ho
    have hkl : (mapL ops).1.map (·.key) = [] → docLast ops = [] := fun hz => by
      rw [← last_eq]; unfold lastL; rw [hz, List.eq_nil_of_length_eq_zero (sortK_len [])]; rfl
    obtain ⟨SK, hSK⟩ : ∃ SK, sortK ((mapL ops).1.map (·.key)) = SK := ⟨_, rfl⟩
    have hSl : SK.length = (mapL ops).1.length := by rw [← hSK, sortK_len, List.length_map]
    have hlt : ∀ {j : Nat} {k : ByteArray}, SK[j]? = some k → ∃ o, lookE (mapL ops).1 k = some o ∧ (SK.take (j + 1)).filterMap (fun k => lookE (mapL ops).1 k) = (SK.take j).filterMap (fun k => lookE (mapL ops).1 k) ++ [o] := fun {j k} hj => by subst hSK; exact last_take ops hj
    have hfin : SK.filterMap (fun k => lookE (mapL ops).1 k) = docLast ops := by subst hSK; exact last_eq ops
    simp only [push_cast, Nat.reduceBEq, Nat.reduceAdd, Nat.reduceEqDiff, reduceCtorEq, Nat.reduceLeDiff, Nat.reduceSub, Nat.reduceMul, Nat.reduceLT, Int.reduceEq, Int.reduceLT, Int.reduceLE, Int.reduceBEq, Int.reduceBNe, Int.reduceToNat, Int.reduceNeg, Int.reduceSub, Int.reduceAdd, h]
    refine callH keysOf_h ?_
    rintro _ _ _ ⟨rfl, rfl, rfl⟩
    simp only [push_cast, Nat.reduceBEq, Nat.reduceAdd, Nat.reduceEqDiff, reduceCtorEq, Nat.reduceLeDiff, Nat.reduceSub, Nat.reduceMul, Nat.reduceLT, Int.reduceEq, Int.reduceLT, Int.reduceLE, Int.reduceBEq, Int.reduceBNe, Int.reduceToNat, Int.reduceNeg, Int.reduceSub, Int.reduceAdd]
    have hm1 : upd (upd Hc nn (some (.row false 24 []))) (nn + 1) (some (.cells [.mp (n + 1)])) (n + 1) = some (.map ((mapL ops).1.map (Ent.me strA opA)) (mapL ops).2) := by rw [upd_other (by omega), upd_other (by omega)]; exact hm
    refine callH (sortedKeys_h (es := (mapL ops).1) (vA := opA) hm1 (upd_same _ _ _) hok hks (by omega)) ?_
    rintro _ H2 n2 (⟨rfl, hz, rfl, rfl⟩ | ⟨rfl, rfl, rfl⟩)
    · have hd := hkl (by rw [hz]; rfl)
      simp only [push_cast, Nat.reduceBEq, Nat.reduceAdd, Nat.reduceEqDiff, reduceCtorEq, Nat.reduceLeDiff, Nat.reduceSub, Nat.reduceMul, Nat.reduceLT, Int.reduceEq, Int.reduceLT, Int.reduceLE, Int.reduceBEq, Int.reduceBNe, Int.reduceToNat, Int.reduceNeg, Int.reduceSub, Int.reduceAdd]
      refine loopK (fun q s => q = 0 ∧ s = ⟨[(6, .rw nn 3 0 0), (24, .lit (.int .i64 0)), (25, .lit (.int .i64 0))], upd (upd Hc nn (some (.row false 24 []))) (nn + 1) (some (.cells [.mp (n + 1)])), nn + 1 + 1⟩) _ [6, 24, 25] ⟨rfl, rfl⟩ ?_
      rintro q _ ⟨rfl, rfl⟩
      simp only [push_cast, Nat.reduceBEq, Nat.reduceAdd, Nat.reduceEqDiff, reduceCtorEq, Nat.reduceLeDiff, Nat.reduceSub, Nat.reduceMul, Nat.reduceLT, Int.reduceEq, Int.reduceLT, Int.reduceLE, Int.reduceBEq, Int.reduceBNe, Int.reduceToNat, Int.reduceNeg, Int.reduceSub, Int.reduceAdd]
      rw [hd]
      exact ⟨nn, rfl, by omega, by omega, (upd_other (by omega)).trans (upd_same _ _ _), fun j hj => (upd_other (by omega)).trans ((upd_other (by omega)).trans (hh j hj))⟩
    · rw [hSK, ← hSl]
      simp only [push_cast, Nat.reduceBEq, Nat.reduceAdd, Nat.reduceEqDiff, reduceCtorEq, Nat.reduceLeDiff, Nat.reduceSub, Nat.reduceMul, Nat.reduceLT, Int.reduceEq, Int.reduceLT, Int.reduceLE, Int.reduceBEq, Int.reduceBNe, Int.reduceToNat, Int.reduceNeg, Int.reduceSub, Int.reduceAdd]
      refine loopK (fun q s => ∃ (j g : Nat) (L : List OpD) (Hq : Hp) (nq : Nat), s = ⟨[(3, .mp (n + 1)), (6, .rw g 3 0 L.length), (23, .rw (nn + 1 + 1) 1 0 SK.length), (24, .lit (.int .i64 (SK.length : Int))), (25, .lit (.int .i64 (j : Int)))], Hq, nq⟩ ∧ j ≤ SK.length ∧ q = SK.length - j ∧ L = (SK.take j).filterMap (fun k => lookE (mapL ops).1 k) ∧ Hq g = some (.row false 24 (L.map opI)) ∧ Hq (n + 1) = some (.map ((mapL ops).1.map (Ent.me strA opA)) (mapL ops).2) ∧ Hq (nn + 1 + 1) = some (.row true 9 (SK.map strI)) ∧ (nn ≤ g ∧ g < nq ∧ g ≠ nn + 1 + 1 ∧ nn + 1 + 1 < nq) ∧ L.length ≤ j ∧ ∀ t, t < n → Hq t = H t) _ [3, 6, 23, 24, 25] ⟨0, nn, [], _, nn + 1 + 1 + 1, rfl, Nat.zero_le _, rfl, rfl, (upd_other (by omega)).trans ((upd_other (by omega)).trans (upd_same _ _ _)), (upd_other (by omega)).trans hm1, upd_same _ _ _, by omega, Nat.le_refl _, fun t ht => (upd_other (by omega)).trans ((upd_other (by omega)).trans ((upd_other (by omega)).trans (hh t ht)))⟩ ?_
      rintro q _ ⟨j, g, L, Hq, nq, rfl, hj, rfl, hL, hg, hmq, hrq, ⟨hg1, hg2, hg3, hg4⟩, hLj, hq⟩
      by_cases hjs : j < SK.length
      · obtain ⟨kk, hkk⟩ : ∃ kk, SK[j]? = some kk := ⟨_, List.getElem?_eq_getElem hjs⟩
        obtain ⟨o, ho, htk⟩ := hlt hkk
        obtain ⟨j0, x, hfe, hx, _, _, hf⟩ := mfind_yes (vA := opA) keyOk_strA ho
        simp only [strA] at hf
        have hw := wrap_nat0 (k := j) (by omega)
        have hjs' : (j : Int) < (SK.length : Int) := by omega
        have e1 : (nq == g) = false := nb (by omega)
        have e2 : (nq == n + 1) = false := nb (by omega)
        have e3 : (nq == nn + 1 + 1) = false := nb (by omega)
        have hb40 : (L.length + 1) * 40 ≤ 140737488355328 := by omega
        have hlen : L.length + 1 = (L ++ [o]).length := by rw [List.length_append]; rfl
        have hnw : L.map opI ++ [opI o] = (L ++ [o]).map opI := by rw [List.map_append]; rfl
        simp only [push_cast, Nat.reduceBEq, Nat.reduceAdd, Nat.reduceEqDiff, reduceCtorEq, Nat.reduceLeDiff, Nat.reduceSub, Nat.reduceMul, Nat.reduceLT, Int.reduceEq, Int.reduceLT, Int.reduceLE, Int.reduceBEq, Int.reduceBNe, Int.reduceToNat, Int.reduceNeg, Int.reduceSub, Int.reduceAdd, hjs, hjs', hkk, hrq, hmq, hf, hx, hg, e1, e2, e3, strI, strA, opA, opI, ops_ble, ops_take, List.length_map, hw, hb40]
        refine ⟨_, by omega, j + 1, nq + 1, L ++ [o], _, _, by rw [← hlen]; rfl, by omega, rfl, ?_, ?_, ?_, ?_, by omega, by rw [← hlen]; omega, fun t ht => ?_⟩
        · rw [htk, ← hL]
        · rw [upd_same, ← hnw]; rfl
        · rw [upd_other (by omega), upd_other (by omega), upd_other (by omega)]; exact hmq
        · rw [upd_other (by omega), upd_other (by omega), upd_other (by omega)]; exact hrq
        · rw [upd_other (by omega), upd_other (by omega), upd_other (by omega)]; exact hq t ht
      · obtain rfl : j = SK.length := by omega
        rw [List.take_length, hfin] at hL
        simp only [push_cast, Nat.reduceBEq, Nat.reduceAdd, Nat.reduceEqDiff, reduceCtorEq, Nat.reduceLeDiff, Nat.reduceSub, Nat.reduceMul, Nat.reduceLT, Int.reduceEq, Int.reduceLT, Int.reduceLE, Int.reduceBEq, Int.reduceBNe, Int.reduceToNat, Int.reduceNeg, Int.reduceSub, Int.reduceAdd, hjs]
        rw [hL] at hg ⊢
        exact ⟨g, rfl, by omega, hg2, hg, hq⟩
theorem Last_h {H : Hp} {n : Nat} {x : AV} {ops : List OpD} (hx : OpsIs H x ops) (hn : ∀ g, x = .rw g 3 0 ops.length → g < n) (hl : ops.length ≤ 1000000) (hs : ∀ o ∈ ops, o.key.size ≤ 140737488355328) :
    HCalls Try.prog 22 [x] H n (NewOps H n (docLast ops)) := by
  rcases hx with rfl | ⟨g, rfl, hg⟩
  · exact Last_s ops hl hs
  · exact Last_r ops (hn g rfl) hg hl hs
end Go.Proofs.Ytmgpfckkafcllaa
