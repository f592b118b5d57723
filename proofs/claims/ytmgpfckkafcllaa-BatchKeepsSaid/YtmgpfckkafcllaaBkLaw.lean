/- The law BatchKeeps: its walk. -/
import Derived.Test.YtmgpfckkafcllaaBkP
set_option linter.unusedVariables false
set_option linter.unusedSimpArgs false
namespace Go.Proofs.Ytmgpfckkafcllaa
open Go Go.RowKit Hv
/-- A change of noughts. -/
def zo : List AV := [.lit (.int .i64 0), .lit (.string ⟨#[]⟩), .lit (.string ⟨#[]⟩)]
theorem splice_zero {G : Nat} {z : List AV} {L : List (List AV)} (h : G = L.length + 2) : spliceL (List.replicate G z) 0 L = L ++ [z, z] := by
  unfold spliceL
  rw [h, List.take_zero, List.nil_append, Nat.zero_add, List.drop_replicate, Nat.add_sub_cancel_left]
  rfl
theorem opI_len (o : OpD) : (opI o).length = 3 := rfl
theorem byteA_len (b : UInt8) : (byteA b).length = 1 := rfl
theorem wrap_nat {k : Nat} (h : k < 9223372036854775807) : IntKind.i64.wrap ((k : Int) + 1) = ((k + 1 : Nat) : Int) := by
  rw [IntWalk.i64_in _ (by omega)]; rfl
set_option maxRecDepth 20000 in
set_option maxHeartbeats 8000000 in
theorem BatchKeeps_h (seq : Int) (ops : List OpD) (hs : ∀ o ∈ ops, o.key.size ≤ 140737488355328) (hl : ops.length * 40 ≤ 140737488355328) : ACalls Try.prog 8 [.lit (.int .i64 seq), .sl (ops.map opI)] (.lit (.bool true)) := by
  refine acallsC_of (rs := [.tmp 4]) ⟨[0, 1, 4, 5, 6, 7, 8, 9, 11, 12, 13, 14, 15, 17, 19, 21, 45, 55, 71, 79, 87, 103], [91], [], [], [4,11,15,21], [25]⟩ TOk mixed Try.func8 rfl rfl (by kernel_rfl) (by kernel_rfl) rfl (by intro x hx; simp only [List.mem_cons, List.not_mem_nil, or_false] at hx; rcases hx with rfl | rfl; exact .lit _; exact noId_ops ops) (.lit _) ?_
  obtain ⟨G, hG⟩ : ∃ G : Nat, G = ops.length + 2 := ⟨_, rfl⟩
  have hGw : IntKind.i64.wrap ((ops.length : Int) + 2) = (G : Int) := by rw [IntWalk.i64_in _ (by omega)]; omega
  have b1 : (40 : Int) * (G : Int) ≤ 281474976710656 := by omega
  have b3 : 0 < G := by omega
  have b5 : ops.length ≤ G := by omega
  simp only [push_cast, Nat.reduceBEq, Nat.reduceAdd, Nat.reduceEqDiff, reduceCtorEq, Nat.reduceLeDiff, Nat.reduceSub, Nat.reduceMul, Nat.reduceLT, Int.reduceEq, Int.reduceLT, Int.reduceLE, Int.reduceBEq, Int.reduceBNe, Int.reduceToNat, Int.reduceNeg, Int.reduceSub, Int.reduceAdd]
  refine callK batched_h ?_
  simp only [push_cast, Nat.reduceBEq, Nat.reduceAdd, Nat.reduceEqDiff, reduceCtorEq, Nat.reduceLeDiff, Nat.reduceSub, Nat.reduceMul, Nat.reduceLT, Int.reduceEq, Int.reduceLT, Int.reduceLE, Int.reduceBEq, Int.reduceBNe, Int.reduceToNat, Int.reduceNeg, Int.reduceSub, Int.reduceAdd]
  refine cutG (fun st => ∃ H, H 0 = some (.row true 24 (ops.map opI ++ [zo, zo])) ∧ st = ⟨[(0, .lit (.int .i64 seq)), (1, .sl (ops.map opI)), (5, .rc 0 3 ops.length G)], H, 1⟩) [0, 1, 5] ?_ ?_
  · simp only [push_cast, Nat.reduceBEq, Nat.reduceAdd, Nat.reduceEqDiff, reduceCtorEq, Nat.reduceLeDiff, Nat.reduceSub, Nat.reduceMul, Nat.reduceLT, Int.reduceEq, Int.reduceLT, Int.reduceLE, Int.reduceBEq, Int.reduceBNe, Int.reduceToNat, Int.reduceNeg, Int.reduceSub, Int.reduceAdd, hGw, b1, b3, b5, List.length_replicate, opI_len]
    exact ⟨_, (by rw [splice_zero (G := G) (L := ops.map opI) (by rw [List.length_map]; exact hG)]; rfl), rfl⟩
  rintro _ ⟨H, h0, rfl⟩
  refine gh_shut (id := 0) (m := true) (e := 24) (items := ops.map opI ++ [zo, zo]) h0 (by simp) ?_
  obtain ⟨B, hB⟩ : ∃ B, ops.map opI ++ [zo, zo] = B := ⟨_, rfl⟩
  have hBl : B.length = G := by rw [← hB, hG]; simp
  have hBt : B.take ops.length = ops.map opI := by rw [← hB]; exact List.take_left' (by simp)
  have hBb : Nat.ble ops.length B.length = true := by rw [hBl]; exact Nat.ble_eq_true_of_le b5
  have hB0 : ∀ k, ops.length ≤ k → k < G → B[k]? = some zo := fun k h1 h2 => by
    rw [← hB, List.getElem?_append_right (by simpa using h1), List.length_map]
    have : k - ops.length = 0 ∨ k - ops.length = 1 := by omega
    rcases this with e | e <;> rw [e] <;> rfl
  rw [hB]
  simp only [push_cast, Nat.reduceBEq, Nat.reduceAdd, Nat.reduceEqDiff, reduceCtorEq, Nat.reduceLeDiff, Nat.reduceSub, Nat.reduceMul, Nat.reduceLT, Int.reduceEq, Int.reduceLT, Int.reduceLE, Int.reduceBEq, Int.reduceBNe, Int.reduceToNat, Int.reduceNeg, Int.reduceSub, Int.reduceAdd]
  generalize hH2 : upd H 0 (some (.frz 24 B)) = H2
  have g0 : H2 0 = some (.frz 24 B) := by rw [← hH2]; exact upd_same _ _ _
  clear hH2 h0 H hB
  refine callK (by simp only [push_cast, Nat.reduceBEq, Nat.reduceAdd, Nat.reduceEqDiff, reduceCtorEq, Nat.reduceLeDiff, Nat.reduceSub, Nat.reduceMul, Nat.reduceLT, Int.reduceEq, Int.reduceLT, Int.reduceLE, Int.reduceBEq, Int.reduceBNe, Int.reduceToNat, Int.reduceNeg, Int.reduceSub, Int.reduceAdd, g0, hBb, hBt]; exact encode_h seq ops) ?_
  simp only [push_cast, Nat.reduceBEq, Nat.reduceAdd, Nat.reduceEqDiff, reduceCtorEq, Nat.reduceLeDiff, Nat.reduceSub, Nat.reduceMul, Nat.reduceLT, Int.reduceEq, Int.reduceLT, Int.reduceLE, Int.reduceBEq, Int.reduceBNe, Int.reduceToNat, Int.reduceNeg, Int.reduceSub, Int.reduceAdd]
  refine callH (HCalls.seen (by simp only [push_cast, Nat.reduceBEq, Nat.reduceAdd, Nat.reduceEqDiff, reduceCtorEq, Nat.reduceLeDiff, Nat.reduceSub, Nat.reduceMul, Nat.reduceLT, Int.reduceEq, Int.reduceLT, Int.reduceLE, Int.reduceBEq, Int.reduceBNe, Int.reduceToNat, Int.reduceNeg, Int.reduceSub, Int.reduceAdd, g0, hBb, hBt]; exact LastM_s ops hl hs)) ?_
  rintro _ H3 n3 ⟨a1, rfl, ha1, ha2, ha3, ha4⟩
  try dsimp only at ha1 ha2 ha3 ha4
  have e0 : H3 0 = some (.frz 24 B) := (ha4 0 (by decide)).trans g0
  simp only [push_cast, Nat.reduceBEq, Nat.reduceAdd, Nat.reduceEqDiff, reduceCtorEq, Nat.reduceLeDiff, Nat.reduceSub, Nat.reduceMul, Nat.reduceLT, Int.reduceEq, Int.reduceLT, Int.reduceLE, Int.reduceBEq, Int.reduceBNe, Int.reduceToNat, Int.reduceNeg, Int.reduceSub, Int.reduceAdd]
  refine callH (HCalls.seen (by simp only [push_cast, Nat.reduceBEq, Nat.reduceAdd, Nat.reduceEqDiff, reduceCtorEq, Nat.reduceLeDiff, Nat.reduceSub, Nat.reduceMul, Nat.reduceLT, Int.reduceEq, Int.reduceLT, Int.reduceLE, Int.reduceBEq, Int.reduceBNe, Int.reduceToNat, Int.reduceNeg, Int.reduceSub, Int.reduceAdd, e0, hBb, hBt]; exact Cells_h seq ops)) ?_
  rintro _ H4 n4 ⟨v2, m2, rfl, hm2, a2, rfl, hb1, hb2, hb3, hb4⟩
  try dsimp only at hb1 hb2 hb3 hb4
  have f0 : H4 0 = some (.frz 24 B) := (hb4 0 (by omega)).trans e0
  have f1 : H4 a1 = some (.row true 24 ((docLast ops).map opI)) := (hb4 a1 ha2).trans ha3
  obtain ⟨LC, hLC⟩ : ∃ LC, (if checkB seq ops = 0 then docCells seq ops else []) = LC := ⟨_, rfl⟩
  have hLm : 0 < LC.length → m2 = true := fun h => by
    rw [← hLC] at h
    by_cases hc : checkB seq ops = 0
    · exact hm2 hc
    · rw [if_neg hc] at h; simp at h
  have hLl : LC.length ≤ 1000 := by
    rw [← hLC]
    by_cases hc : checkB seq ops = 0
    · rw [if_pos hc, docCells_len]; have := (checkB_zero hc).2.2.1; omega
    · rw [if_neg hc]; simp
  rw [hLC] at hb3
  rw [hLC]
  clear hm2 hLC hb4 ha4 ha3 e0 g0
  obtain ⟨LO, hLO⟩ : ∃ LO, (docLast ops).map opI = LO := ⟨_, rfl⟩
  have hLOl : (docLast ops).length = LO.length := by rw [← hLO, List.length_map]
  have hLO3 : ∀ it ∈ LO, it.length = 3 := fun it hit => by rw [← hLO] at hit; obtain ⟨x, _, rfl⟩ := List.mem_map.1 hit; rfl
  have hLOs : LO.length ≤ 4000000000000 := by rw [← hLOl]; have := docLast_len ops; omega
  rw [hLO] at f1
  rw [hLOl]
  clear hLO hLOl
  have ne12 : a1 ≠ a2 := by omega
  simp only [push_cast, Nat.reduceBEq, Nat.reduceAdd, Nat.reduceEqDiff, reduceCtorEq, Nat.reduceLeDiff, Nat.reduceSub, Nat.reduceMul, Nat.reduceLT, Int.reduceEq, Int.reduceLT, Int.reduceLE, Int.reduceBEq, Int.reduceBNe, Int.reduceToNat, Int.reduceNeg, Int.reduceSub, Int.reduceAdd]
  refine cutK (fun st => ∃ H, H 0 = some (.frz 24 B) ∧ H a2 = some (.row m2 48 (LC.map cellH)) ∧ st = ⟨[(0, .lit (.int .i64 seq)), (1, .sl (ops.map opI)), (5, .rc 0 3 ops.length G), (6, .sl ((encR seq ops).map byteA)), (7, .lit (.int .i64 (checkB seq ops))), (9, .rw a2 4 0 LC.length)], H, n4⟩) [0, 1, 5, 6, 7, 9] ?_ ?_
  · simp only [push_cast, Nat.reduceBEq, Nat.reduceAdd, Nat.reduceEqDiff, reduceCtorEq, Nat.reduceLeDiff, Nat.reduceSub, Nat.reduceMul, Nat.reduceLT, Int.reduceEq, Int.reduceLT, Int.reduceLE, Int.reduceBEq, Int.reduceBNe, Int.reduceToNat, Int.reduceNeg, Int.reduceSub, Int.reduceAdd]
    refine loopK (fun n st => ∃ (i : Nat) (L' : List (List AV)) (H : Hp), i ≤ LO.length ∧ L'.length = LO.length ∧ (∀ it ∈ L', it.length = 3) ∧ H a1 = some (.row true 24 L') ∧ (∀ j, j ≠ a1 → H j = H4 j) ∧ n = LO.length - i ∧ st = ⟨[(0, .lit (.int .i64 seq)), (1, .sl (ops.map opI)), (5, .rc 0 3 ops.length G), (6, .sl ((encR seq ops).map byteA)), (7, .lit (.int .i64 (checkB seq ops))), (8, .rw a1 3 0 LO.length), (9, .rw a2 4 0 LC.length), (11, .lit (.int .i64 i))], H, n4⟩)
      _ [0, 1, 5, 6, 7, 8, 9, 11] ⟨0, LO, H4, Nat.zero_le _, rfl, hLO3, f1, fun _ _ => rfl, rfl, rfl⟩ ?_
    rintro n _ ⟨i, L', H, hi, hl', h4', hH2, hHo, rfl, rfl⟩
    by_cases h : i < LO.length
    · obtain ⟨it, hit⟩ : ∃ it, L'[i]? = some it := ⟨_, List.getElem?_eq_getElem (by omega)⟩
      have hil : it.length = 3 := h4' it (List.mem_of_getElem? hit)
      have hw := wrap_nat (k := i) (by omega)
      simp only [push_cast, Nat.reduceBEq, Nat.reduceAdd, Nat.reduceEqDiff, reduceCtorEq, Nat.reduceLeDiff, Nat.reduceSub, Nat.reduceMul, Nat.reduceLT, Int.reduceEq, Int.reduceLT, Int.reduceLE, Int.reduceBEq, Int.reduceBNe, Int.reduceToNat, Int.reduceNeg, Int.reduceSub, Int.reduceAdd, h, hit, hil, hH2, hw]
      refine ⟨_, by omega, i + 1, _, _, by omega, ?_, ?_, upd_same _ _ _, fun j hj2 => by rw [upd_other (fun e => hj2 e.symm)]; exact hHo j hj2, rfl, rfl⟩
      · rw [List.length_set]; exact hl'
      · intro it' hm
        rcases List.mem_or_eq_of_mem_set hm with hm | hm
        · exact h4' it' hm
        · rw [hm]; simp [hil]
    · obtain rfl : i = LO.length := by omega
      simp only [push_cast, Nat.reduceBEq, Nat.reduceAdd, Nat.reduceEqDiff, reduceCtorEq, Nat.reduceLeDiff, Nat.reduceSub, Nat.reduceMul, Nat.reduceLT, Int.reduceEq, Int.reduceLT, Int.reduceLE, Int.reduceBEq, Int.reduceBNe, Int.reduceToNat, Int.reduceNeg, Int.reduceSub, Int.reduceAdd, h]
      exact ⟨H, (hHo 0 (by omega)).trans f0, (hHo a2 (fun e => ne12 e.symm)).trans hb3, rfl⟩
  clear f0 f1 hb3 H4 hLO3
  rintro _ ⟨H4, f0, hb3, rfl⟩
  refine cutK (fun st => ∃ H, H 0 = some (.frz 24 B) ∧ st = ⟨[(0, .lit (.int .i64 seq)), (1, .sl (ops.map opI)), (5, .rc 0 3 ops.length G), (6, .sl ((encR seq ops).map byteA)), (7, .lit (.int .i64 (checkB seq ops)))], H, n4⟩) [0, 1, 5, 6, 7] ?_ ?_
  · simp only [push_cast, Nat.reduceBEq, Nat.reduceAdd, Nat.reduceEqDiff, reduceCtorEq, Nat.reduceLeDiff, Nat.reduceSub, Nat.reduceMul, Nat.reduceLT, Int.reduceEq, Int.reduceLT, Int.reduceLE, Int.reduceBEq, Int.reduceBNe, Int.reduceToNat, Int.reduceNeg, Int.reduceSub, Int.reduceAdd]
    refine loopK (fun n st => ∃ (i : Nat) (L' : List (List AV)) (H : Hp), i ≤ LC.length ∧ L'.length = LC.length ∧ (∀ it ∈ L', it.length = 4) ∧ H a2 = some (.row m2 48 L') ∧ (∀ j, j ≠ a2 → H j = H4 j) ∧ n = LC.length - i ∧ st = ⟨[(0, .lit (.int .i64 seq)), (1, .sl (ops.map opI)), (5, .rc 0 3 ops.length G), (6, .sl ((encR seq ops).map byteA)), (7, .lit (.int .i64 (checkB seq ops))), (9, .rw a2 4 0 LC.length), (12, .lit (.int .i64 i))], H, n4⟩)
      _ [0, 1, 5, 6, 7, 9, 12] ⟨0, LC.map cellH, H4, Nat.zero_le _, List.length_map .., (by exact fun it hit => by obtain ⟨x, _, rfl⟩ := List.mem_map.1 hit; rfl), hb3, fun _ _ => rfl, rfl, rfl⟩ ?_
    rintro n _ ⟨i, L', H, hi, hl', h4', hH2, hHo, rfl, rfl⟩
    by_cases h : i < LC.length
    · obtain ⟨it, hit⟩ : ∃ it, L'[i]? = some it := ⟨_, List.getElem?_eq_getElem (by omega)⟩
      have hil : it.length = 4 := h4' it (List.mem_of_getElem? hit)
      have hw := wrap_nat (k := i) (by omega)
      obtain rfl := hLm (by omega)
      simp only [push_cast, Nat.reduceBEq, Nat.reduceAdd, Nat.reduceEqDiff, reduceCtorEq, Nat.reduceLeDiff, Nat.reduceSub, Nat.reduceMul, Nat.reduceLT, Int.reduceEq, Int.reduceLT, Int.reduceLE, Int.reduceBEq, Int.reduceBNe, Int.reduceToNat, Int.reduceNeg, Int.reduceSub, Int.reduceAdd, h, hit, hil, hH2, hw]
      refine ⟨_, by omega, i + 1, _, _, by omega, ?_, ?_, upd_same _ _ _, fun j hj2 => by rw [upd_other (fun e => hj2 e.symm)]; exact hHo j hj2, rfl, rfl⟩
      · rw [List.length_set]; exact hl'
      · intro it' hm
        rcases List.mem_or_eq_of_mem_set hm with hm | hm
        · exact h4' it' hm
        · rw [hm]; simp [hil]
    · obtain rfl : i = LC.length := by omega
      simp only [push_cast, Nat.reduceBEq, Nat.reduceAdd, Nat.reduceEqDiff, reduceCtorEq, Nat.reduceLeDiff, Nat.reduceSub, Nat.reduceMul, Nat.reduceLT, Int.reduceEq, Int.reduceLT, Int.reduceLE, Int.reduceBEq, Int.reduceBNe, Int.reduceToNat, Int.reduceNeg, Int.reduceSub, Int.reduceAdd, h]
      exact ⟨H, (hHo 0 (by omega)).trans f0, rfl⟩
  clear f0 hb3 H4
  rintro _ ⟨H4, f0, rfl⟩
  simp only [push_cast, Nat.reduceBEq, Nat.reduceAdd, Nat.reduceEqDiff, reduceCtorEq, Nat.reduceLeDiff, Nat.reduceSub, Nat.reduceMul, Nat.reduceLT, Int.reduceEq, Int.reduceLT, Int.reduceLE, Int.reduceBEq, Int.reduceBNe, Int.reduceToNat, Int.reduceNeg, Int.reduceSub, Int.reduceAdd, Int.le_refl]
  refine cutK (fun st => st = ⟨[(0, .lit (.int .i64 seq)), (1, .sl (ops.map opI)), (5, .rc 0 3 ops.length G), (6, .sl ((encR seq ops).map byteA)), (7, .lit (.int .i64 (checkB seq ops)))], H4, n4⟩) [0, 1, 5, 6, 7] ?_ ?_
  · simp only [push_cast, Nat.reduceBEq, Nat.reduceAdd, Nat.reduceEqDiff, reduceCtorEq, Nat.reduceLeDiff, Nat.reduceSub, Nat.reduceMul, Nat.reduceLT, Int.reduceEq, Int.reduceLT, Int.reduceLE, Int.reduceBEq, Int.reduceBNe, Int.reduceToNat, Int.reduceNeg, Int.reduceSub, Int.reduceAdd]
    refine loopK (fun n st => ∃ (i : Nat), ops.length ≤ i ∧ i ≤ G ∧ n = G - i ∧ st = ⟨[(0, .lit (.int .i64 seq)), (1, .sl (ops.map opI)), (5, .rc 0 3 ops.length G), (6, .sl ((encR seq ops).map byteA)), (7, .lit (.int .i64 (checkB seq ops))), (13, .rc 0 3 G G), (14, .lit (.int .i64 i))], H4, n4⟩)
      _ [0, 1, 5, 6, 7, 13, 14] ⟨ops.length, Nat.le_refl _, b5, rfl, rfl⟩ ?_
    rintro n _ ⟨i, hi, hiG, rfl, rfl⟩
    have hBg : B.take G = B := List.take_of_length_le (by omega)
    have hBG : Nat.ble G B.length = true := by rw [hBl]; exact Nat.ble_self_eq_true G
    by_cases h : i < G
    · have hw := wrap_nat (k := i) (by omega)
      have hat := hB0 i hi h
      unfold zo at hat
      simp only [push_cast, Nat.reduceBEq, Nat.reduceAdd, Nat.reduceEqDiff, reduceCtorEq, Nat.reduceLeDiff, Nat.reduceSub, Nat.reduceMul, Nat.reduceLT, Int.reduceEq, Int.reduceLT, Int.reduceLE, Int.reduceBEq, Int.reduceBNe, Int.reduceToNat, Int.reduceNeg, Int.reduceSub, Int.reduceAdd, h, f0, hBG, hBg, hat, hw]
      exact ⟨_, by omega, i + 1, by omega, by omega, rfl, rfl⟩
    · obtain rfl : i = G := by omega
      simp only [push_cast, Nat.reduceBEq, Nat.reduceAdd, Nat.reduceEqDiff, reduceCtorEq, Nat.reduceLeDiff, Nat.reduceSub, Nat.reduceMul, Nat.reduceLT, Int.reduceEq, Int.reduceLT, Int.reduceLE, Int.reduceBEq, Int.reduceBNe, Int.reduceToNat, Int.reduceNeg, Int.reduceSub, Int.reduceAdd, h, f0, hBG, hBg]
  rintro _ rfl
  simp only [push_cast, Nat.reduceBEq, Nat.reduceAdd, Nat.reduceEqDiff, reduceCtorEq, Nat.reduceLeDiff, Nat.reduceSub, Nat.reduceMul, Nat.reduceLT, Int.reduceEq, Int.reduceLT, Int.reduceLE, Int.reduceBEq, Int.reduceBNe, Int.reduceToNat, Int.reduceNeg, Int.reduceSub, Int.reduceAdd]
  refine callH (HCalls.seen (by simp only [push_cast, Nat.reduceBEq, Nat.reduceAdd, Nat.reduceEqDiff, reduceCtorEq, Nat.reduceLeDiff, Nat.reduceSub, Nat.reduceMul, Nat.reduceLT, Int.reduceEq, Int.reduceLT, Int.reduceLE, Int.reduceBEq, Int.reduceBNe, Int.reduceToNat, Int.reduceNeg, Int.reduceSub, Int.reduceAdd, f0, hBb, hBt]; exact Ops_refl (.inl rfl) (.inl rfl) (by omega))) ?_
  rintro _ _ _ ⟨rfl, hH5, hn5⟩
  rw [hH5, hn5]
  by_cases hc : checkB seq ops = 0
  · have he0 : (checkB seq ops != 0) = false := by simp [hc]
    have henc : encR seq ops = encB seq.toNat ops := if_pos hc
    have hdec := decB_put hc
    rw [← henc] at hdec
    obtain ⟨bs, hbs⟩ : ∃ bs, encR seq ops = bs := ⟨_, rfl⟩
    have hbl : bs.length * 1 ≤ 140737488355328 := by
      have hz := (checkB_zero hc).2.2
      have hva : ∀ o ∈ ops, o.key.size ≤ 64 ∧ o.val.size ≤ 1000 := fun o ho => ⟨(hz.2 o ho).2.1, (hz.2 o ho).2.2.1⟩
      have h1 : ((encB seq.toNat ops).length : Int) = 12 + sumI ops := encB_size hva
      have h2 := sumI_bd hva
      rw [← hbs, henc]
      have := hz.1
      omega
    have hbl2 : bs.length ≤ 140737488355328 := by omega
    have hb1 : ∀ b : UInt8, (byteA b).all AV.isOne = true := fun b => rfl
    rw [hbs] at hdec
    have hD := decode_h (H := upd (upd (upd H4 n4 (some (.row true 5 []))) n4 none) (n4 + 1) (some (.row true 5 (bs.map byteA)))) (n := n4 + 1 + 1) (g := n4 + 1) (m := true) (e := 5) bs (upd_same _ _ _)
    rw [hdec] at hD
    simp only [push_cast, Nat.reduceBEq, Nat.reduceAdd, Nat.reduceEqDiff, reduceCtorEq, Nat.reduceLeDiff, Nat.reduceSub, Nat.reduceMul, Nat.reduceLT, Int.reduceEq, Int.reduceLT, Int.reduceLE, Int.reduceBEq, Int.reduceBNe, Int.reduceToNat, Int.reduceNeg, Int.reduceSub, Int.reduceAdd, he0, hbs, byteA_len, hbl, hbl2, List.not_mem_nil, false_implies, oldO, List.isEmpty_nil]
    refine callH hD ?_
    rintro _ _ _ ⟨rfl, rfl, rfl⟩
    simp only [push_cast, Nat.reduceBEq, Nat.reduceAdd, Nat.reduceEqDiff, reduceCtorEq, Nat.reduceLeDiff, Nat.reduceSub, Nat.reduceMul, Nat.reduceLT, Int.reduceEq, Int.reduceLT, Int.reduceLE, Int.reduceBEq, Int.reduceBNe, Int.reduceToNat, Int.reduceNeg, Int.reduceSub, Int.reduceAdd]
    generalize hH5 : upd (upd (upd (upd H4 n4 (some (.row true 5 []))) n4 none) (n4 + 1) (some (.row true 5 (bs.map byteA)))) (n4 + 1 + 1) (some (.row false 24 (ops.map opI))) = H5
    have k1 : H5 (n4 + 1) = some (.row true 5 (bs.map byteA)) := by rw [← hH5, upd_other (by omega)]; exact upd_same _ _ _
    have k2 : H5 (n4 + 1 + 1) = some (.row false 24 (ops.map opI)) := by rw [← hH5]; exact upd_same _ _ _
    clear hH5 hD
    refine loopK (fun n st => ∃ (i : Nat) (L' : List (List AV)) (H : Hp), i ≤ bs.length ∧ L'.length = bs.length ∧ (∀ it ∈ L', it.length = 1) ∧ H (n4 + 1) = some (.row true 5 L') ∧ H (n4 + 1 + 1) = some (.row false 24 (ops.map opI)) ∧ n = bs.length - i ∧ st = ⟨[(1, .sl (ops.map opI)), (15, .rw (n4 + 1) 1 0 bs.length), (17, .rw (n4 + 1 + 1) 3 0 ops.length), (19, .lit (.int .i64 i))], H, n4 + 1 + 1 + 1⟩)
      _ [1, 15, 17, 19] ⟨0, bs.map byteA, H5, Nat.zero_le _, List.length_map .., (by exact fun it hit => by obtain ⟨x, _, rfl⟩ := List.mem_map.1 hit; rfl), k1, k2, rfl, rfl⟩ ?_
    rintro n _ ⟨i, L', H, hi, hl', h4', hH2, hH3, rfl, rfl⟩
    by_cases h : i < bs.length
    · obtain ⟨it, hit⟩ : ∃ it, L'[i]? = some it := ⟨_, List.getElem?_eq_getElem (by omega)⟩
      have hil : it.length = 1 := h4' it (List.mem_of_getElem? hit)
      have hw := wrap_nat (k := i) (by omega)
      simp only [push_cast, Nat.reduceBEq, Nat.reduceAdd, Nat.reduceEqDiff, reduceCtorEq, Nat.reduceLeDiff, Nat.reduceSub, Nat.reduceMul, Nat.reduceLT, Int.reduceEq, Int.reduceLT, Int.reduceLE, Int.reduceBEq, Int.reduceBNe, Int.reduceToNat, Int.reduceNeg, Int.reduceSub, Int.reduceAdd, h, hit, hil, hH2, hw]
      refine ⟨_, by omega, i + 1, _, _, by omega, ?_, ?_, upd_same _ _ _, by rw [upd_other (by omega)]; exact hH3, rfl, rfl⟩
      · rw [List.length_set]; exact hl'
      · intro it' hm
        rcases List.mem_or_eq_of_mem_set hm with hm | hm
        · exact h4' it' hm
        · rw [hm]; simp [hil]
    · obtain rfl : i = bs.length := by omega
      simp only [push_cast, Nat.reduceBEq, Nat.reduceAdd, Nat.reduceEqDiff, reduceCtorEq, Nat.reduceLeDiff, Nat.reduceSub, Nat.reduceMul, Nat.reduceLT, Int.reduceEq, Int.reduceLT, Int.reduceLE, Int.reduceBEq, Int.reduceBNe, Int.reduceToNat, Int.reduceNeg, Int.reduceSub, Int.reduceAdd, h]
      refine callH (HCalls.seen (by simp only [push_cast, Nat.reduceBEq, Nat.reduceAdd, Nat.reduceEqDiff, reduceCtorEq, Nat.reduceLeDiff, Nat.reduceSub, Nat.reduceMul, Nat.reduceLT, Int.reduceEq, Int.reduceLT, Int.reduceLE, Int.reduceBEq, Int.reduceBNe, Int.reduceToNat, Int.reduceNeg, Int.reduceSub, Int.reduceAdd, hH3, ops_ble, ops_take]; exact Ops_refl (.inl rfl) (.inl rfl) (by omega))) ?_
      rintro _ _ _ ⟨rfl, hH6, hn6⟩
      simp only [push_cast, Nat.reduceBEq, Nat.reduceAdd, Nat.reduceEqDiff, reduceCtorEq, Nat.reduceLeDiff, Nat.reduceSub, Nat.reduceMul, Nat.reduceLT, Int.reduceEq, Int.reduceLT, Int.reduceLE, Int.reduceBEq, Int.reduceBNe, Int.reduceToNat, Int.reduceNeg, Int.reduceSub, Int.reduceAdd]
  · have he0 : (checkB seq ops != 0) = true := by simpa using hc
    simp only [push_cast, Nat.reduceBEq, Nat.reduceAdd, Nat.reduceEqDiff, reduceCtorEq, Nat.reduceLeDiff, Nat.reduceSub, Nat.reduceMul, Nat.reduceLT, Int.reduceEq, Int.reduceLT, Int.reduceLE, Int.reduceBEq, Int.reduceBNe, Int.reduceToNat, Int.reduceNeg, Int.reduceSub, Int.reduceAdd, he0]
    refine callH (HCalls.seen (by simp only [push_cast, Nat.reduceBEq, Nat.reduceAdd, Nat.reduceEqDiff, reduceCtorEq, Nat.reduceLeDiff, Nat.reduceSub, Nat.reduceMul, Nat.reduceLT, Int.reduceEq, Int.reduceLT, Int.reduceLE, Int.reduceBEq, Int.reduceBNe, Int.reduceToNat, Int.reduceNeg, Int.reduceSub, Int.reduceAdd, f0, hBb, hBt]; exact Ops_refl (.inl rfl) (.inl rfl) (by omega))) ?_
    rintro _ _ _ ⟨rfl, hH6, hn6⟩
    simp only [push_cast, Nat.reduceBEq, Nat.reduceAdd, Nat.reduceEqDiff, reduceCtorEq, Nat.reduceLeDiff, Nat.reduceSub, Nat.reduceMul, Nat.reduceLT, Int.reduceEq, Int.reduceLT, Int.reduceLE, Int.reduceBEq, Int.reduceBNe, Int.reduceToNat, Int.reduceNeg, Int.reduceSub, Int.reduceAdd]
end Go.Proofs.Ytmgpfckkafcllaa
