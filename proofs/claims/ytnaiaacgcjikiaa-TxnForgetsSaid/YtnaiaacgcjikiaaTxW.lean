/- Transactions: Over, Put, Del, by the walk over a heap. -/
import Derived.Test.YtnaiaacgcjikiaaTxR
set_option linter.unusedVariables false
set_option linter.unusedSimpArgs false
namespace Go.Proofs.Ytnaiaacgcjikiaa
open Go Go.RowKit Hv
set_option maxRecDepth 20000
set_option maxHeartbeats 4000000
theorem zFacts : ∃ (zc : Array Value) (zs : List AV), lk? T.zeros 65 = some (.agg zc) ∧ zc.toList.map AV.lit = .lit (.int .i64 0) :: zs ∧ zs.all AV.isOne = true ∧ zs.length = 64 ∧ ∀ x : AV, List.drop 65 (x :: zs) = [] := by
  obtain ⟨zc, h1, h2⟩ := zName
  refine ⟨zc, _, h1, h2, ?_, List.length_replicate, fun x => List.drop_of_length_le (by rw [List.length_cons, List.length_replicate]; omega)⟩
  simp [u8A, AV.isOne, Value.oneCell']
theorem str_empty {k : ByteArray} : (k.toList == (⟨#[]⟩ : ByteArray).toList) = decide (k.size = 0) := by
  rw [Lib.toList_data, Lib.toList_data]
  have : k.data.toList.length = k.size := by rw [Array.length_toList]; rfl
  rw [Bool.eq_iff_iff, beq_iff_eq, decide_eq_true_eq, ← this, List.length_eq_zero_iff]
theorem over_h {H : Hp} {n p m : Nat} {t : TxnD} (h : TxnH H p m t) : HCalls Try.prog 13 [.ptr p 0] H n fun r H' n' => r = .lit (.bool t.over) ∧ H' = H ∧ n' = n := by
  refine hcallsC_of (rs := [.tmp 2]) ⟨[0, 2], [], [], []⟩ TOk mixed Try.func13 rfl rfl (by kernel_rfl) (by kernel_rfl) rfl ?_
  have tx := h.tx
  simp only [push_cast, Nat.reduceBEq, Nat.reduceAdd, Nat.reduceEqDiff, reduceCtorEq, Nat.reduceLeDiff, Nat.reduceSub, Nat.reduceMul, Nat.reduceLT, Int.reduceEq, Int.reduceLT, Int.reduceLE, Int.reduceBEq, Int.reduceBNe, Int.reduceToNat, Int.reduceNeg, Int.reduceSub, Int.reduceAdd, tx]
/-- What a change of a key answers. -/
def chErr (t : TxnD) (o : OpD) : Int :=
  if t.over then 12 else if 64 < o.key.size ∨ 1000 < o.val.size then 14 else if o.key.size = 0 then 2 else
  if h : o.key.size ≤ 64 then (if lookE t.ops ⟨o.key, h⟩ = none ∧ 200 ≤ t.ops.length then 14 else 0) else 14
def chTxn (t : TxnD) (o : OpD) : TxnD := if chErr t o = 0 then (if h : o.key.size ≤ 64 then ⟨t.start, t.over, (putE t.ops t.oc ⟨o.key, h⟩ o).1, (putE t.ops t.oc ⟨o.key, h⟩ o).2⟩ else t) else t
theorem change_h {H : Hp} {n p m : Nat} {t : TxnD} (h : TxnH H p m t) (hp : p < n) (hm : m < n) (o : OpD) : HCalls Try.prog 19 [.ptr p 0, .agg (opI o)] H n fun r H' n' =>
    r = .lit (.int .i64 (chErr t o)) ∧ n ≤ n' ∧ TxnH H' p m (chTxn t o) ∧ Keeps H H' n [m] := by
  refine hcallsC_of (rs := [.tmp 4]) ⟨[0, 1, 3, 4, 5, 7, 8, 11, 22, 47], [], [], [(8, [(0, [], []), (1, [], []), (2, [], []), (3, [], []), (4, [], []), (5, [], []), (6, [], []), (7, [], []), (8, [], []), (9, [3, 4, 5], []), (10, [], [9, 7, 0, 1, 2, 3, 4, 5, 6]), (11, [], [8, 10, 0, 1, 2, 3, 4, 5, 6, 7, 9])]), (11, [(0, [], []), (1, [], []), (2, [], []), (3, [], []), (4, [], []), (5, [], []), (6, [], [3, 4, 5, 0, 1, 2])])]⟩ TOk mixed Try.func19 rfl rfl (by kernel_rfl) (by kernel_rfl) rfl ?_
  have tx := h.tx
  have q1 : (n == p) = false := nb (by omega)
  have h1 : TxnH (upd H n (some (.cells (opI o)))) p m t := ⟨(upd_other (by omega)).trans h.tx, (upd_other (by omega)).trans h.ops, h.ok, h.val, h.len⟩
  have hne : p ≠ m := fun e => by have := h.ops; rw [← e, tx] at this; cases this
  unfold opI at *
  simp only [push_cast, Nat.reduceBEq, Nat.reduceAdd, Nat.reduceEqDiff, reduceCtorEq, Nat.reduceLeDiff, Nat.reduceSub, Nat.reduceMul, Nat.reduceLT, Int.reduceEq, Int.reduceLT, Int.reduceLE, Int.reduceBEq, Int.reduceBNe, Int.reduceToNat, Int.reduceNeg, Int.reduceSub, Int.reduceAdd, tx]
  refine callH (over_h h1) ?_
  rintro _ H2 n2 ⟨rfl, rfl, rfl⟩
  cases ho : t.over with
  | true =>
    simp only [push_cast, Nat.reduceBEq, Nat.reduceAdd, Nat.reduceEqDiff, reduceCtorEq, Nat.reduceLeDiff, Nat.reduceSub, Nat.reduceMul, Nat.reduceLT, Int.reduceEq, Int.reduceLT, Int.reduceLE, Int.reduceBEq, Int.reduceBNe, Int.reduceToNat, Int.reduceNeg, Int.reduceSub, Int.reduceAdd]
    have e1 : chErr t o = 12 := by unfold chErr; rw [if_pos ho]
    have e2 : chTxn t o = t := by unfold chTxn; rw [e1, if_neg (by decide)]
    rw [e1, e2]
    exact ⟨rfl, by omega, h1, (Keeps.refl _ _ _).new (Nat.le_refl _)⟩
  | false =>
    have tx0 := tx
    rw [ho] at tx0
    by_cases hk : 64 < o.key.size
    · have f1 : (o.key.size : Int) > 64 := by omega
      have e1 : chErr t o = 14 := by unfold chErr; rw [if_neg (by rw [ho]; simp), if_pos (.inl hk)]
      have e2 : chTxn t o = t := by unfold chTxn; rw [e1, if_neg (by decide)]
      simp only [push_cast, Nat.reduceBEq, Nat.reduceAdd, Nat.reduceEqDiff, reduceCtorEq, Nat.reduceLeDiff, Nat.reduceSub, Nat.reduceMul, Nat.reduceLT, Int.reduceEq, Int.reduceLT, Int.reduceLE, Int.reduceBEq, Int.reduceBNe, Int.reduceToNat, Int.reduceNeg, Int.reduceSub, Int.reduceAdd, f1]
      rw [e1, e2]
      exact ⟨rfl, by omega, h1, (Keeps.refl _ _ _).new (Nat.le_refl _)⟩
    · have f1 : ¬ (o.key.size : Int) > 64 := by omega
      by_cases hv : 1000 < o.val.size
      · have f2 : (o.val.size : Int) > 1000 := by omega
        have e1 : chErr t o = 14 := by unfold chErr; rw [if_neg (by rw [ho]; simp), if_pos (.inr hv)]
        have e2 : chTxn t o = t := by unfold chTxn; rw [e1, if_neg (by decide)]
        simp only [push_cast, Nat.reduceBEq, Nat.reduceAdd, Nat.reduceEqDiff, reduceCtorEq, Nat.reduceLeDiff, Nat.reduceSub, Nat.reduceMul, Nat.reduceLT, Int.reduceEq, Int.reduceLT, Int.reduceLE, Int.reduceBEq, Int.reduceBNe, Int.reduceToNat, Int.reduceNeg, Int.reduceSub, Int.reduceAdd, f1, f2]
        rw [e1, e2]
        exact ⟨rfl, by omega, h1, (Keeps.refl _ _ _).new (Nat.le_refl _)⟩
      · have f2 : ¬ (o.val.size : Int) > 1000 := by omega
        by_cases h0 : o.key.size = 0
        · have f3 : (o.key.toList == (⟨#[]⟩ : ByteArray).toList) = true := by rw [str_empty, decide_eq_true h0]
          have e1 : chErr t o = 2 := by unfold chErr; rw [if_neg (by rw [ho]; simp), if_neg (by omega), if_pos h0]
          have e2 : chTxn t o = t := by unfold chTxn; rw [e1, if_neg (by decide)]
          simp only [push_cast, Nat.reduceBEq, Nat.reduceAdd, Nat.reduceEqDiff, reduceCtorEq, Nat.reduceLeDiff, Nat.reduceSub, Nat.reduceMul, Nat.reduceLT, Int.reduceEq, Int.reduceLT, Int.reduceLE, Int.reduceBEq, Int.reduceBNe, Int.reduceToNat, Int.reduceNeg, Int.reduceSub, Int.reduceAdd, f1, f2, f3]
          rw [e1, e2]
          exact ⟨rfl, by omega, h1, (Keeps.refl _ _ _).new (Nat.le_refl _)⟩
        · have f3 : (o.key.toList == (⟨#[]⟩ : ByteArray).toList) = false := by rw [str_empty, decide_eq_false h0]
          simp only [push_cast, Nat.reduceBEq, Nat.reduceAdd, Nat.reduceEqDiff, reduceCtorEq, Nat.reduceLeDiff, Nat.reduceSub, Nat.reduceMul, Nat.reduceLT, Int.reduceEq, Int.reduceLT, Int.reduceLE, Int.reduceBEq, Int.reduceBNe, Int.reduceToNat, Int.reduceNeg, Int.reduceSub, Int.reduceAdd, f1, f2, f3]
          have hk' : o.key.size ≤ 64 := by omega
          obtain ⟨K, hK⟩ : ∃ K : Nm, K = ⟨o.key, hk'⟩ := ⟨_, rfl⟩
          have hK1 : K.1 = o.key := by rw [hK]
          have hnm := named_h K
          rw [hK1] at hnm
          refine callK hnm ?_
          obtain ⟨zc, zs, z1, z2, z3, z4, z5⟩ := zFacts
          have hN1 := nameC_len hk'
          have hN2 := one_name o.key
          have hN3 : (nameC o.key).take 65 = nameC o.key := List.take_of_length_le (by omega)
          have hkm := kind_name K
          simp only [Hv.keyKind, Hv.keys65] at hkm
          rw [hK1] at hkm
          have hops := h.ops
          have r1 : (n == m) = false := nb (by omega)
          have r2 : (n + 1 == m) = false := nb (by omega)
          have r3 : (n + 1 + 1 == m) = false := nb (by omega)
          have r4 : (n + 1 == p) = false := nb (by omega)
          have r5 : (n + 1 + 1 == p) = false := nb (by omega)
          have r6 : (m == n) = false := nb (by omega)
          have r7 : (m == n + 1) = false := nb (by omega)
          have r8 : (m == n + 1 + 1) = false := nb (by omega)
          have kn : nameA K = .agg (nameC o.key) := by rw [← hK1]; rfl
          cases hl : lookE t.ops K with
          | none =>
            have hf := mfind_no (kA := nameA) (vA := opA) keyOk_name hl
            rw [kn] at hf
            by_cases hlen : 200 ≤ t.ops.length
            · have f4 : (t.ops.length : Int) ≥ 200 := by omega
              simp only [push_cast, Nat.reduceBEq, Nat.reduceAdd, Nat.reduceEqDiff, reduceCtorEq, Nat.reduceLeDiff, Nat.reduceSub, Nat.reduceMul, Nat.reduceLT, Int.reduceEq, Int.reduceLT, Int.reduceLE, Int.reduceBEq, Int.reduceBNe, Int.reduceToNat, Int.reduceNeg, Int.reduceSub, Int.reduceAdd, z1, z2, z3, z4, z5, hN1, hN2, hN3, hkm, hops, hf, r1, r2, r3, r4, r5, r6, r7, r8, q1, tx0, f4, Hv.nbq0_1, Hv.nbq1_0, Hv.nbq0_2, Hv.nbq2_0, Hv.nbq1_2, Hv.nbq2_1, List.append_nil]
              have e1 : chErr t o = 14 := by unfold chErr; rw [if_neg (by rw [ho]; simp), if_neg (by omega), if_neg h0, dif_pos hk', if_pos ⟨by rw [← hK]; exact hl, hlen⟩]
              have e2 : chTxn t o = t := by unfold chTxn; rw [e1, if_neg (by decide)]
              rw [e1, e2]
              exact ⟨rfl, by omega, ⟨(by (repeat rw [upd_other (by omega)]); exact tx), (by (repeat rw [upd_other (by omega)]); exact hops), h.ok, h.val, h.len⟩, (((((Keeps.refl _ _ _).new (Nat.le_refl _)).new (by omega)).new (by omega)).new (by omega)).new (by omega)⟩
            · have f4 : ¬ (t.ops.length : Int) ≥ 200 := by omega
              simp only [push_cast, Nat.reduceBEq, Nat.reduceAdd, Nat.reduceEqDiff, reduceCtorEq, Nat.reduceLeDiff, Nat.reduceSub, Nat.reduceMul, Nat.reduceLT, Int.reduceEq, Int.reduceLT, Int.reduceLE, Int.reduceBEq, Int.reduceBNe, Int.reduceToNat, Int.reduceNeg, Int.reduceSub, Int.reduceAdd, z1, z2, z3, z4, z5, hN1, hN2, hN3, hkm, hops, hf, r1, r2, r3, r4, r5, r6, r7, r8, q1, tx0, f4, Hv.nbq0_1, Hv.nbq1_0, Hv.nbq0_2, Hv.nbq2_0, Hv.nbq1_2, Hv.nbq2_1, List.append_nil]
              have e1 : chErr t o = 0 := by unfold chErr; rw [if_neg (by rw [ho]; simp), if_neg (by omega), if_neg h0, dif_pos hk', if_neg fun hh => hlen hh.2]
              have e2 : chTxn t o = ⟨t.start, t.over, t.ops ++ [⟨K, o, t.oc⟩], t.oc + 1⟩ := by unfold chTxn; rw [e1, if_pos rfl, dif_pos hk', ← hK, put_new o hl]
              rw [e1, e2]
              refine ⟨rfl, by omega, ⟨(by (repeat rw [upd_other (by omega)]); exact tx), ?_, mapOk_snoc h.ok (lookE_none.1 hl) _, fun e he => ?_, by show (t.ops ++ [_]).length ≤ 200; rw [List.length_append]; have : [(⟨K, o, t.oc⟩ : Ent Nm OpD)].length = 1 := rfl; omega⟩, ((((((Keeps.refl _ _ _).new (Nat.le_refl _)).new (by omega)).new (by omega)).new (by omega)).new (by omega)).put (by simp)⟩
              · rw [upd_same]
                refine congrArg (fun l => some (AO.map l (t.oc + 1))) ?_
                rw [← snoc_me (kA := nameA) (vA := opA) t.ops K o t.oc, kn]; rfl
              · rcases List.mem_append.1 he with he | he
                · exact h.val e he
                · rw [List.mem_singleton.1 he]; exact hK1.symm
          | some v =>
            obtain ⟨i, x, g1, g2, g3, g4, hf⟩ := mfind_yes (kA := nameA) (vA := opA) keyOk_name hl
            rw [kn] at hf
            simp only [push_cast, Nat.reduceBEq, Nat.reduceAdd, Nat.reduceEqDiff, reduceCtorEq, Nat.reduceLeDiff, Nat.reduceSub, Nat.reduceMul, Nat.reduceLT, Int.reduceEq, Int.reduceLT, Int.reduceLE, Int.reduceBEq, Int.reduceBNe, Int.reduceToNat, Int.reduceNeg, Int.reduceSub, Int.reduceAdd, z1, z2, z3, z4, z5, hN1, hN2, hN3, hkm, hops, hf, r1, r2, r3, r4, r5, r6, r7, r8, q1, tx0, g2, opA, opI, Ent.me, Hv.nbq0_1, Hv.nbq1_0, Hv.nbq0_2, Hv.nbq2_0, Hv.nbq1_2, Hv.nbq2_1, List.append_nil]
            have e1 : chErr t o = 0 := by unfold chErr; rw [if_neg (by rw [ho]; simp), if_neg (by omega), if_neg h0, dif_pos hk', if_neg fun hh => by rw [← hK, hl] at hh; cases hh.1]
            have e2 : chTxn t o = ⟨t.start, t.over, t.ops.set i ⟨K, o, x.born⟩, t.oc⟩ := by unfold chTxn; rw [e1, if_pos rfl, dif_pos hk', ← hK, put_old o g1 g2]
            have hput := h.ok.put K o
            rw [put_old o g1 g2] at hput
            rw [e1, e2]
            refine ⟨rfl, by omega, ⟨(by (repeat rw [upd_other (by omega)]); exact tx), ?_, hput, fun e he => ?_, by show (t.ops.set i _).length ≤ 200; rw [List.length_set]; exact h.len⟩, ((((((Keeps.refl _ _ _).new (Nat.le_refl _)).new (by omega)).new (by omega)).new (by omega)).new (by omega)).put (by simp)⟩
            · rw [upd_same]
              refine congrArg (fun l => some (AO.map l t.oc)) ?_
              rw [List.map_set, ← kn]; rfl
            · rcases List.mem_or_eq_of_mem_set he with he | rfl
              · exact h.val e he
              · exact hK1.symm
theorem put_h {H : Hp} {n p m : Nat} {t : TxnD} (h : TxnH H p m t) (hp : p < n) (hm : m < n) (k v : ByteArray) : HCalls Try.prog 9 [.ptr p 0, .lit (.string k), .lit (.string v)] H n fun r H' n' =>
    r = .lit (.int .i64 (chErr t ⟨1, k, v⟩)) ∧ n ≤ n' ∧ TxnH H' p m (chTxn t ⟨1, k, v⟩) ∧ Keeps H H' n [m] := by
  refine hcallsC_of (rs := [.tmp 6]) ⟨[0, 1, 2, 6], [], [], []⟩ TOk mixed Try.func9 rfl rfl (by kernel_rfl) (by kernel_rfl) rfl ?_
  simp only [push_cast, Nat.reduceBEq, Nat.reduceAdd, Nat.reduceEqDiff, reduceCtorEq, Nat.reduceLeDiff, Nat.reduceSub, Nat.reduceMul, Nat.reduceLT, Int.reduceEq, Int.reduceLT, Int.reduceLE, Int.reduceBEq, Int.reduceBNe, Int.reduceToNat, Int.reduceNeg, Int.reduceSub, Int.reduceAdd]
  refine callH (change_h h hp hm ⟨1, k, v⟩) ?_
  rintro _ H2 n2 ⟨rfl, h1, h2, h3⟩
  simp only [push_cast, Nat.reduceBEq, Nat.reduceAdd, Nat.reduceEqDiff, reduceCtorEq, Nat.reduceLeDiff, Nat.reduceSub, Nat.reduceMul, Nat.reduceLT, Int.reduceEq, Int.reduceLT, Int.reduceLE, Int.reduceBEq, Int.reduceBNe, Int.reduceToNat, Int.reduceNeg, Int.reduceSub, Int.reduceAdd]
  exact ⟨h1, h2, h3⟩
theorem del_h {H : Hp} {n p m : Nat} {t : TxnD} (h : TxnH H p m t) (hp : p < n) (hm : m < n) (k : ByteArray) : HCalls Try.prog 16 [.ptr p 0, .lit (.string k)] H n fun r H' n' =>
    r = .lit (.int .i64 (chErr t ⟨0, k, ⟨#[]⟩⟩)) ∧ n ≤ n' ∧ TxnH H' p m (chTxn t ⟨0, k, ⟨#[]⟩⟩) ∧ Keeps H H' n [m] := by
  refine hcallsC_of (rs := [.tmp 4]) ⟨[0, 1, 4], [], [], []⟩ TOk mixed Try.func16 rfl rfl (by kernel_rfl) (by kernel_rfl) rfl ?_
  simp only [push_cast, Nat.reduceBEq, Nat.reduceAdd, Nat.reduceEqDiff, reduceCtorEq, Nat.reduceLeDiff, Nat.reduceSub, Nat.reduceMul, Nat.reduceLT, Int.reduceEq, Int.reduceLT, Int.reduceLE, Int.reduceBEq, Int.reduceBNe, Int.reduceToNat, Int.reduceNeg, Int.reduceSub, Int.reduceAdd]
  refine callH (change_h h hp hm ⟨0, k, ⟨#[]⟩⟩) ?_
  rintro _ H2 n2 ⟨rfl, h1, h2, h3⟩
  simp only [push_cast, Nat.reduceBEq, Nat.reduceAdd, Nat.reduceEqDiff, reduceCtorEq, Nat.reduceLeDiff, Nat.reduceSub, Nat.reduceMul, Nat.reduceLT, Int.reduceEq, Int.reduceLT, Int.reduceLE, Int.reduceBEq, Int.reduceBNe, Int.reduceToNat, Int.reduceNeg, Int.reduceSub, Int.reduceAdd]
  exact ⟨h1, h2, h3⟩
end Go.Proofs.Ytnaiaacgcjikiaa
