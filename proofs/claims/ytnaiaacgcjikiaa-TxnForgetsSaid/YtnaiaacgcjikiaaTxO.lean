/- Transactions: their own changes in the order of the keys; by the walk over a heap. -/
import Derived.Test.YtnaiaacgcjikiaaTxW
import Derived.Test.YtnaiaacgcjikiaaKsSB
set_option linter.unusedVariables false
set_option linter.unusedSimpArgs false
namespace Go.Proofs.Ytnaiaacgcjikiaa
open Go Go.RowKit Hv
set_option maxRecDepth 20000
set_option maxHeartbeats 4000000
theorem find_bornE {κ ν : Type} [DecidableEq κ] {kA : κ → AV} {vA : ν → AV} {es : List (Ent κ ν)} (hn : (es.map (·.born)).Nodup) {x : Ent κ ν} (hx : x ∈ es) : (es.map (Ent.me kA vA)).find? (fun e => e.born == x.born) = some ⟨kA x.key, vA x.val, x.born⟩ := by
  induction es with
  | nil => cases hx
  | cons e es ih =>
    rw [List.map_cons, List.nodup_cons] at hn
    rw [List.map_cons, List.find?_cons]
    rcases List.mem_cons.1 hx with rfl | hx'
    · simp [Ent.me]
    · have hne : (e.born == x.born) = false := by
        rw [beq_eq_false_iff_ne]
        intro h
        exact hn.1 (List.mem_map.2 ⟨x, hx', h.symm⟩)
      have : ((Ent.me kA vA e).born == x.born) = false := hne
      rw [this]
      exact ih hn.2 hx'
theorem left_lenE {κ ν : Type} [DecidableEq κ] {es : List (Ent κ ν)} {seen : List Nat} (hn : (es.map (·.born)).Nodup) {x : Ent κ ν} (hx : x ∈ leftL es seen) : (leftL es (seen ++ [x.born])).length < (leftL es seen).length := by
  have := (leftL_next hn hx).length_eq
  rw [List.length_cons] at this; omega
instance : Inhabited OpD := ⟨⟨0, ⟨#[]⟩, ⟨#[]⟩⟩⟩
/-- The changes, in the order of their keys. -/
def valOf (es : List (Ent Nm OpD)) (k : ByteArray) : OpD := if h : k.size ≤ 64 then (lookE es ⟨k, h⟩).getD default else default
def opsS (es : List (Ent Nm OpD)) : List ByteArray := sortK (es.map (·.key.1))
def opsL (es : List (Ent Nm OpD)) : List OpD := (opsS es).map (valOf es)
theorem opsL_len (es : List (Ent Nm OpD)) : (opsL es).length = es.length := by unfold opsL opsS; rw [List.length_map, sortK_len, List.length_map]
theorem opsS_at {es : List (Ent Nm OpD)} {clock : Nat} (hok : MapOk es clock) {k : Nat} {s : ByteArray} (h : (opsS es)[k]? = some s) : ∃ (hs : s.size ≤ 64) (o : OpD), lookE es ⟨s, hs⟩ = some o ∧ (opsL es)[k]? = some o := by
  have hm := List.mem_of_getElem? h
  unfold opsS at hm
  rw [sortK_mem] at hm
  obtain ⟨e, he, rfl⟩ := List.mem_map.1 hm
  refine ⟨e.key.2, e.val, mem_lookE hok.keys he, ?_⟩
  unfold opsL
  rw [List.getElem?_map, h, Option.map_some]
  congr 1
  unfold valOf
  rw [dif_pos e.key.2, mem_lookE hok.keys he]; rfl
def opsOf (t : TxnD) : List OpD := if t.over then [] else opsL t.ops
/-- A row of changes just laid. -/
def NewOps (H : Hp) (n : Nat) (l : List OpD) (r : AV) (H' : Hp) (n' : Nat) : Prop := ∃ g, r = .rw g 3 0 l.length ∧ n ≤ g ∧ g < n' ∧ H' g = some (.row false 39 (l.map opI)) ∧ n ≤ n' ∧ Keeps H H' n []
theorem sortK_perm {a b : List ByteArray} (h : a.Perm b) : sortK a = sortK b := by
  unfold sortK
  rw [mergeSort_of_perm (h.map _)]
theorem ops_h {H : Hp} {n p m : Nat} {t : TxnD} (h : TxnH H p m t) (hp : p < n) (hm : m < n) : HCalls Try.prog 10 [.ptr p 0] H n (NewOps H n (opsOf t)) := by
  refine hcallsC_of (rs := [.tmp 2]) ⟨[0, 2, 3, 4, 5, 7, 9, 15, 17, 25, 26, 27, 28], [], [], [(12, [(0, [], []), (1, [], []), (2, [], []), (3, [], []), (4, [], []), (5, [], []), (6, [4], [5]), (7, [], []), (8, [], []), (9, [], [0, 8, 6, 7, 5, 4, 3, 2, 1]), (10, [], [9, 0, 1, 2, 3, 4, 5, 6, 7, 8])])]⟩ TOk mixed Try.func10 rfl rfl (by kernel_rfl) (by kernel_rfl) rfl ?_
  have h1 : TxnH (upd H n (some (.row false 39 []))) p m t := ⟨(upd_other (by omega)).trans h.tx, (upd_other (by omega)).trans h.ops, h.ok, h.val, h.len⟩
  simp only [push_cast, Nat.reduceBEq, Nat.reduceAdd, Nat.reduceEqDiff, reduceCtorEq, Nat.reduceLeDiff, Nat.reduceSub, Nat.reduceMul, Nat.reduceLT, Int.reduceEq, Int.reduceLT, Int.reduceLE, Int.reduceBEq, Int.reduceBNe, Int.reduceToNat, Int.reduceNeg, Int.reduceSub, Int.reduceAdd]
  refine callH (over_h h1) ?_
  rintro _ H2 n2 ⟨rfl, rfl, rfl⟩
  cases ho : t.over with
  | true =>
    simp only [push_cast, Nat.reduceBEq, Nat.reduceAdd, Nat.reduceEqDiff, reduceCtorEq, Nat.reduceLeDiff, Nat.reduceSub, Nat.reduceMul, Nat.reduceLT, Int.reduceEq, Int.reduceLT, Int.reduceLE, Int.reduceBEq, Int.reduceBNe, Int.reduceToNat, Int.reduceNeg, Int.reduceSub, Int.reduceAdd]
    unfold opsOf
    rw [if_pos ho]
    exact ⟨n + 1, rfl, by omega, by omega, upd_same _ _ _, by omega, ((Keeps.refl _ _ _).new (Nat.le_refl _)).new (by omega)⟩
  | false =>
    have hL : opsOf t = opsL t.ops := by unfold opsOf; rw [ho]; rfl
    rw [hL]
    have tx := h.tx
    have hops := h.ops
    have hok := h.ok
    have q1 : (n == p) = false := nb (by omega)
    have q2 : (n + 1 == p) = false := nb (by omega)
    have q3 : (n == m) = false := nb (by omega)
    have q4 : (n + 1 == m) = false := nb (by omega)
    simp only [push_cast, Nat.reduceBEq, Nat.reduceAdd, Nat.reduceEqDiff, reduceCtorEq, Nat.reduceLeDiff, Nat.reduceSub, Nat.reduceMul, Nat.reduceLT, Int.reduceEq, Int.reduceLT, Int.reduceLE, Int.reduceBEq, Int.reduceBNe, Int.reduceToNat, Int.reduceNeg, Int.reduceSub, Int.reduceAdd, tx, hops, q1, q2, q3, q4]
    refine loopK (fun q s => ∃ (seen : List Nat) (KE : List (Ent ByteArray Bool)) (kc : Nat) (H4 : Hp) (nn : Nat), s = ⟨[(0, .ptr p 0), (3, .mp (n + 1)), (15, .ptr (n + 1 + 1) 0)], H4, nn⟩ ∧ n + 3 ≤ nn ∧ Keeps H H4 n [] ∧ H4 (n + 1) = some (.map (KE.map (Ent.me strA boolA)) kc) ∧ MapOk KE kc ∧ H4 (n + 1 + 1) = some (.iter (some m) t.oc seen t.oc) ∧
      (KE.map (·.key) ++ (leftL t.ops seen).map (·.key.1)).Perm (t.ops.map (·.key.1)) ∧ q = (leftL t.ops seen).length) _ [0, 3, 15]
      ⟨[], [], 0, _, _, rfl, Nat.le_refl _, (((Keeps.refl _ _ _).new (Nat.le_refl _)).new (by omega)).new (by omega), (upd_other (by omega)).trans (upd_same _ _ _), MapOk.nil, upd_same _ _ _, by rw [leftL_nil]; exact List.Perm.refl _, rfl⟩ ?_
    rintro q _ ⟨seen, KE, kc, H4, nn, rfl, hnn, hkp, hK, hKok, hI, hperm, rfl⟩
    have hm4 : H4 m = _ := hkp.to hm List.not_mem_nil hops
    simp only [push_cast, Nat.reduceBEq, Nat.reduceAdd, Nat.reduceEqDiff, reduceCtorEq, Nat.reduceLeDiff, Nat.reduceSub, Nat.reduceMul, Nat.reduceLT, Int.reduceEq, Int.reduceLT, Int.reduceLE, Int.reduceBEq, Int.reduceBNe, Int.reduceToNat, Int.reduceNeg, Int.reduceSub, Int.reduceAdd, hI, hm4]
    refine nextK (borns_me hok) (Nat.le_refl _) (fun hle => ?_) (fun x0 hx0 => ?_)
    · have hle' : leftL t.ops seen = [] := by
        rw [leftE_me] at hle
        exact List.map_eq_nil_iff.1 hle
      rw [hle', List.map_nil, List.append_nil] at hperm
      simp only [push_cast, Nat.reduceBEq, Nat.reduceAdd, Nat.reduceEqDiff, reduceCtorEq, Nat.reduceLeDiff, Nat.reduceSub, Nat.reduceMul, Nat.reduceLT, Int.reduceEq, Int.reduceLT, Int.reduceLE, Int.reduceBEq, Int.reduceBNe, Int.reduceToNat, Int.reduceNeg, Int.reduceSub, Int.reduceAdd]
      refine callH keysOfSB_h ?_
      rintro _ _ _ ⟨rfl, rfl, rfl⟩
      simp only [push_cast, Nat.reduceBEq, Nat.reduceAdd, Nat.reduceEqDiff, reduceCtorEq, Nat.reduceLeDiff, Nat.reduceSub, Nat.reduceMul, Nat.reduceLT, Int.reduceEq, Int.reduceLT, Int.reduceLE, Int.reduceBEq, Int.reduceBNe, Int.reduceToNat, Int.reduceNeg, Int.reduceSub, Int.reduceAdd]
      have hlK : KE.length = t.ops.length := by have := hperm.length_eq; simpa using this
      have hb1 : (nn + 1 == n + 1) = false := nb (by omega)
      have hb2 : (nn == n + 1) = false := nb (by omega)
      refine callH (sortedKeysSB_h (vA := boolA) (mid := n + 1) (clock := kc) (es := KE) ((upd_other (by omega)).trans ((upd_other (by omega)).trans hK)) (upd_same _ _ _) hKok (fun e he => by
        have h1 : e.key ∈ t.ops.map (·.key.1) := hperm.mem_iff.1 (List.mem_map.2 ⟨e, he, rfl⟩)
        obtain ⟨x, _, hx⟩ := List.mem_map.1 h1
        have := x.key.2
        rw [hx] at this
        omega) (by have := h.len; omega)) ?_
      rintro r H5 n5 hr
      have hsk : sortK (KE.map (·.key)) = opsS t.ops := sortK_perm hperm
      rw [hsk, hlK] at hr
      have kn : ∀ (K : Nm), nameA K = .agg (nameC K.1) := fun K => rfl
      obtain ⟨S, hS⟩ : ∃ S, opsS t.ops = S := ⟨_, rfl⟩
      have hSl : S.length = t.ops.length := by rw [← hS]; unfold opsS; rw [sortK_len, List.length_map]
      have hOl := opsL_len t.ops
      have hlen := h.len
      rcases hr with ⟨rfl, he0, rfl, rfl⟩ | ⟨rfl, rfl, rfl⟩
      · have hz : t.ops = [] := List.eq_nil_of_length_eq_zero (by rw [← hlK, he0]; rfl)
        simp only [push_cast, Nat.reduceBEq, Nat.reduceAdd, Nat.reduceEqDiff, reduceCtorEq, Nat.reduceLeDiff, Nat.reduceSub, Nat.reduceMul, Nat.reduceLT, Int.reduceEq, Int.reduceLT, Int.reduceLE, Int.reduceBEq, Int.reduceBNe, Int.reduceToNat, Int.reduceNeg, Int.reduceSub, Int.reduceAdd]
        refine loopK (fun q s => q = 0 ∧ s = ⟨[(0, .ptr p 0), (5, .rw nn 3 0 0), (25, .lit (.slice none 0 0)), (26, .lit (.int .i64 0)), (27, .lit (.int .i64 0))], upd (upd H4 nn (some (.row false 39 []))) (nn + 1) (some (.cells [.mp (n + 1)])), nn + 1 + 1⟩) _ [0, 5, 25, 26, 27] ⟨rfl, rfl⟩ ?_
        rintro q _ ⟨rfl, rfl⟩
        simp only [push_cast, Nat.reduceBEq, Nat.reduceAdd, Nat.reduceEqDiff, reduceCtorEq, Nat.reduceLeDiff, Nat.reduceSub, Nat.reduceMul, Nat.reduceLT, Int.reduceEq, Int.reduceLT, Int.reduceLE, Int.reduceBEq, Int.reduceBNe, Int.reduceToNat, Int.reduceNeg, Int.reduceSub, Int.reduceAdd]
        rw [hz, show opsL [] = [] from List.eq_nil_of_length_eq_zero (opsL_len [])]
        exact ⟨nn, rfl, by omega, by omega, (upd_other (by omega)).trans (upd_same _ _ _), by omega, (hkp.new (by omega)).new (by omega)⟩
      · simp only [push_cast, Nat.reduceBEq, Nat.reduceAdd, Nat.reduceEqDiff, reduceCtorEq, Nat.reduceLeDiff, Nat.reduceSub, Nat.reduceMul, Nat.reduceLT, Int.reduceEq, Int.reduceLT, Int.reduceLE, Int.reduceBEq, Int.reduceBNe, Int.reduceToNat, Int.reduceNeg, Int.reduceSub, Int.reduceAdd, hS]
        refine loopK (fun q s => ∃ (k g : Nat) (H6 : Hp) (n6 : Nat), s = ⟨[(0, .ptr p 0), (5, .rw g 3 0 k), (25, .rw (nn + 1 + 1) 1 0 t.ops.length), (26, .lit (.int .i64 (t.ops.length : Int))), (27, .lit (.int .i64 (k : Int)))], H6, n6⟩ ∧ k ≤ t.ops.length ∧ q = t.ops.length - k ∧ n + 1 < g ∧ g < n6 ∧ g ≠ nn + 1 + 1 ∧ nn + 1 + 1 < n6 ∧ Keeps H H6 n [] ∧ H6 (nn + 1 + 1) = some (.row true 9 (S.map strI)) ∧ H6 g = some (.row false 39 (((opsL t.ops).take k).map opI))) _ [0, 5, 25, 26, 27]
          ⟨0, nn, _, _, rfl, Nat.zero_le _, rfl, by omega, by show nn < nn + 1 + 1 + 1; omega, by omega, Nat.lt_succ_self _, ((hkp.new (by omega)).new (by omega)).new (by omega), upd_same _ _ _, (upd_other (by omega)).trans ((upd_other (by omega)).trans (upd_same _ _ _))⟩ ?_
        rintro q _ ⟨k, g, H6, n6, rfl, hk, rfl, hg1, hg2, hg3, hn6, hkp6, hS6, hG6⟩
        have hp6 := hkp6.to hp List.not_mem_nil tx
        have hm6 := hkp6.to hm List.not_mem_nil hops
        by_cases hkl : k < t.ops.length
        · have hkl' : (k : Int) < (t.ops.length : Int) := by omega
          obtain ⟨s0, hs0⟩ : ∃ s0, S[k]? = some s0 := ⟨_, List.getElem?_eq_getElem (by omega)⟩
          obtain ⟨hsz, o, ho1, ho2⟩ := opsS_at hok (by rw [hS]; exact hs0)
          have hw := wrap_nat0 (k := k) (by omega)
          have hbl : Nat.ble t.ops.length S.length = true := by rw [Nat.ble_eq]; omega
          have htk : (S.map strI).take t.ops.length = S.map strI := List.take_of_length_le (by rw [List.length_map]; omega)
          simp only [push_cast, Nat.reduceBEq, Nat.reduceAdd, Nat.reduceEqDiff, reduceCtorEq, Nat.reduceLeDiff, Nat.reduceSub, Nat.reduceMul, Nat.reduceLT, Int.reduceEq, Int.reduceLT, Int.reduceLE, Int.reduceBEq, Int.reduceBNe, Int.reduceToNat, Int.reduceNeg, Int.reduceSub, Int.reduceAdd, hkl, hkl', hS6, hbl, htk, hs0, strI, hw, hp6, hm6]
          refine callD (named_h ⟨s0, hsz⟩) ?_
          obtain ⟨i, x, g1, g2, g3, g4, hf⟩ := mfind_yes (kA := nameA) (vA := opA) keyOk_name ho1
          have hkm := kind_name ⟨s0, hsz⟩
          simp only [Hv.keyKind, Hv.keys65] at hkm
          simp only [nameA, opA, opI] at hf
          have htl : ((opsL t.ops).take k).length = k := by rw [List.length_take]; omega
          have hb2 : Nat.ble k ((opsL t.ops).take k).length = true := by rw [htl]; exact Nat.ble_self_eq_true k
          have ht2 : (((opsL t.ops).take k).map opI).take k = ((opsL t.ops).take k).map opI := List.take_of_length_le (by rw [List.length_map, htl]; exact Nat.le_refl _)
          have q5 : (k + 1) * 40 ≤ 140737488355328 := by omega
          have e1 : (n6 == g) = false := nb (by omega)
          have e2 : (n6 == m) = false := nb (by omega)
          simp only [push_cast, Nat.reduceBEq, Nat.reduceAdd, Nat.reduceEqDiff, reduceCtorEq, Nat.reduceLeDiff, Nat.reduceSub, Nat.reduceMul, Nat.reduceLT, Int.reduceEq, Int.reduceLT, Int.reduceLE, Int.reduceBEq, Int.reduceBNe, Int.reduceToNat, Int.reduceNeg, Int.reduceSub, Int.reduceAdd, hf, hkm, hG6, hm6, hp6, htl, hb2, ht2, q5, e1, e2, hw, List.length_append]
          refine ⟨_, by omega, k + 1, n6, _, _, rfl, by omega, rfl, by omega, Nat.lt_succ_self _, by omega, by omega, (hkp6.new (by omega)).new (by omega), ?_, ?_⟩
          · rw [upd_other (by omega), upd_other (by omega)]; exact hS6
          · rw [upd_same, List.take_add_one, ho2, List.map_append]; rfl
        · simp only [push_cast, Nat.reduceBEq, Nat.reduceAdd, Nat.reduceEqDiff, reduceCtorEq, Nat.reduceLeDiff, Nat.reduceSub, Nat.reduceMul, Nat.reduceLT, Int.reduceEq, Int.reduceLT, Int.reduceLE, Int.reduceBEq, Int.reduceBNe, Int.reduceToNat, Int.reduceNeg, Int.reduceSub, Int.reduceAdd, hkl]
          obtain rfl : k = t.ops.length := by omega
          rw [← hOl, List.take_length] at hG6
          rw [← hOl]
          exact ⟨g, rfl, by omega, hg2, hG6, by omega, hkp6⟩
    · rw [leftE_me] at hx0
      obtain ⟨x, hxl, rfl⟩ := List.mem_map.1 hx0
      clear hx0
      have hxm : x ∈ t.ops := (List.mem_filter.1 hxl).1
      have hfb := find_bornE (kA := nameA) (vA := opA) hok.borns hxm
      have hll := left_lenE hok.borns hxl
      have hnext := leftL_next hok.borns hxl
      simp only [nameA] at hfb
      have hN1 := nameC_len x.key.2
      have hN2 := one_name x.key.1
      have hN3 : (nameC x.key.1).take 65 = nameC x.key.1 := List.take_of_length_le (by omega)
      obtain ⟨zc, zs, z1, z2, z3, z4, z5⟩ := zFacts
      have r1 : (n + 1 + 1 == m) = false := nb (by omega)
      simp only [push_cast, Nat.reduceBEq, Nat.reduceAdd, Nat.reduceEqDiff, reduceCtorEq, Nat.reduceLeDiff, Nat.reduceSub, Nat.reduceMul, Nat.reduceLT, Int.reduceEq, Int.reduceLT, Int.reduceLE, Int.reduceBEq, Int.reduceBNe, Int.reduceToNat, Int.reduceNeg, Int.reduceSub, Int.reduceAdd, Ent.me, nameA, hm4, List.getLast?_concat, hfb, r1, z1, z2, z3, z4, z5, hN1, hN2, hN3, List.append_nil]
      have hkv : Hv.ACalls Try.prog 20 [AV.agg ((nameC x.key.1).map (AV.view1 (upd (upd (upd H4 (n + 1 + 1) (some (AO.iter (some m) t.oc (seen ++ [x.born]) t.oc))) nn (some (AO.cells (AV.lit (Value.int IntKind.i64 0) :: zs)))) nn (some (AO.cells (nameC x.key.1))))))] (.lit (.string x.key.1)) := by rw [view_name]; exact key_h x.key
      refine callK hkv ?_
      have hnk : lookE KE x.key.1 = none := lookE_none.2 fun e he heq => by
        have hnd : (t.ops.map (·.key.1)).Nodup := by
          have := hok.keys
          rw [show t.ops.map (·.key.1) = (t.ops.map (·.key)).map Subtype.val by rw [List.map_map]; rfl]
          exact List.Pairwise.map _ (fun a b hab e => hab (Subtype.ext e)) this
        have h2 := hperm.nodup_iff.2 hnd
        have h3 := (List.nodup_append.1 h2).2.2 e.key (List.mem_map.2 ⟨e, he, rfl⟩) x.key.1 (List.mem_map.2 ⟨x, hxl, rfl⟩)
        exact h3 heq
      have hf := mfind_no (kA := strA) (vA := boolA) keyOk_str hnk
      simp only [strA] at hf
      have r2 : (n + 1 + 1 == n + 1) = false := nb (by omega)
      have r3 : (nn == n + 1) = false := nb (by omega)
      simp only [push_cast, Nat.reduceBEq, Nat.reduceAdd, Nat.reduceEqDiff, reduceCtorEq, Nat.reduceLeDiff, Nat.reduceSub, Nat.reduceMul, Nat.reduceLT, Int.reduceEq, Int.reduceLT, Int.reduceLE, Int.reduceBEq, Int.reduceBNe, Int.reduceToNat, Int.reduceNeg, Int.reduceSub, Int.reduceAdd, hK, hf, r2, r3]
      refine ⟨_, hll, seen ++ [x.born], KE ++ [⟨x.key.1, true, kc⟩], kc + 1, _, nn + 1, rfl, by omega, ((((hkp.new (by omega)).new (by omega)).new (by omega)).new (by omega)), ?_, mapOk_snoc hKok (lookE_none.1 hnk) _, ?_, ?_, rfl⟩
      · rw [upd_same]
        exact congrArg (fun l => some (AO.map l (kc + 1))) (snoc_me (kA := strA) (vA := boolA) KE x.key.1 true kc)
      · rw [upd_other (by omega), upd_other (by omega), upd_other (by omega), upd_same]
      · rw [List.map_append, List.append_assoc]
        refine List.Perm.trans ?_ hperm
        exact List.Perm.append_left _ (hnext.map (fun e : Ent Nm OpD => e.key.1)).symm
end Go.Proofs.Ytnaiaacgcjikiaa
