/- Epochs: the small law in front of each; by the walk over a heap. -/
import Derived.Test.YtndojmpgadbefaaEpU
set_option linter.unusedVariables false
set_option linter.unusedSimpArgs false
namespace Go.Proofs.Ytndojmpgadbefaa
open Go Go.RowKit Hv
set_option maxRecDepth 20000
set_option maxHeartbeats 4000000
def aD1 : EpD := (epZ (poolZ 64 4)).adv 0 landZ
def aD2 : EpD := aD1.pinned (aD1.last + 1) (aD1.pins ++ [⟨((aD1.last + 1 : Nat) : Int), (aD1.now : Int), aD1.pc⟩], aD1.pc + 1)
def aR : EraD := ⟨0, [], 0, 0⟩
def aL : LandD := ⟨true, 1, [], 0⟩
def aL2 : LandD := ⟨true, 1, [0], 3⟩
def aP : PoolD := (aD2.pool.grown 0 aL 0).filled 0 ⟨true, 1, [0], 0⟩ 3
def aB : List UInt8 := [97, 98, 99]
def aX : NoteD := ⟨1, 0, 1, 0, 3⟩
def aD3 : EpD := aD2.retired (aP.stored 0 (0 % aP.size) aB) 0 aR aX
def aD4 : EpD := aD3.adv 1 landZ
def aD5 : EpD := aD4.pinned aD4.last (delE aD4.pins 1, aD4.pc)
def aD6 : EpD := aD5.dropped 1
theorem aAlloc : allocD aD2.pool 0 aL 3 = (aP, handA 0 1 0 3, 0) := by kernel_rfl
theorem aPiece : PieceOk aP 0 aL2 0 3 := ⟨by kernel_rfl, rfl, by decide, by decide, by decide +kernel⟩
theorem aLands : aP.lands = aD2.pool.lands.set 0 aL2 := by kernel_rfl
theorem aOld4 : IsOldest aD4 1 := ⟨by decide +kernel, by decide +kernel, .inr ⟨⟨1, 1, 0⟩, by show _ ∈ [_]; exact List.mem_singleton.2 rfl, rfl⟩⟩
theorem aOld5 : IsOldest aD5 2 := ⟨by decide +kernel, by decide +kernel, .inl rfl⟩
theorem aPiece4 : PieceOk aD4.pool 0 aL2 0 3 := ⟨by kernel_rfl, rfl, by decide, by decide, by decide +kernel⟩
theorem aBytes : aD4.pool.bytesAt 0 (0 % aD4.pool.size) 3 = aB := by decide +kernel
theorem aIdle : idleN aD6.pool.taken = 4 := by decide +kernel
theorem aKept : aD6.kept = 0 := by decide +kernel
theorem aStr : bytesOf (aB.map byteA) = some [97, 98, 99] := by kernel_rfl
section
variable {H : Hp} {n : Nat}
theorem ages_h : HCalls Try.prog 9 [] H n fun r H' n' => r = .lit (.bool true) ∧ n ≤ n' ∧ ∀ j, j < n → H' j = H j := by
  refine hcallsC_of (rs := [.tmp 0]) ⟨[0, 1, 2, 3, 4, 5, 6, 7, 8, 9, 10, 11, 12, 13, 19, 26, 94], [], [], [], []⟩ TOk mixed Try.func9 rfl rfl (by kernel_rfl) (by kernel_rfl) rfl ?_
  simp only [push_cast, Nat.reduceBEq, Nat.reduceAdd, Nat.reduceEqDiff, reduceCtorEq, Nat.reduceLeDiff, Nat.reduceSub, Nat.reduceMul, Nat.reduceLT, Int.reduceEq, Int.reduceLT, Int.reduceLE, Int.reduceBEq, Int.reduceBNe, Int.reduceToNat, Int.reduceNeg, Int.reduceSub, Int.reduceAdd]
  refine callH (newPool_c (size := 64) (K := 4) (by decide) (by decide) (by decide) (by decide)) ?_
  rintro _ H1 n1 ⟨p, S1, rfl, hp1, hn1, hS1, k1⟩
  simp only [push_cast, Nat.reduceBEq, Nat.reduceAdd, Nat.reduceEqDiff, reduceCtorEq, Nat.reduceLeDiff, Nat.reduceSub, Nat.reduceMul, Nat.reduceLT, Int.reduceEq, Int.reduceLT, Int.reduceLE, Int.reduceBEq, Int.reduceBNe, Int.reduceToNat, Int.reduceNeg, Int.reduceSub, Int.reduceAdd]
  refine callH (newEp_c hp1 (l := landZ) rfl rfl (by decide)) ?_
  rintro _ H2 n2 ⟨e, S2, rfl, ⟨N2, h2, hN2⟩, hn2, k2⟩
  have h2 : EpH H2 n2 S2 e N2 aD1 := h2
  simp only [push_cast, Nat.reduceBEq, Nat.reduceAdd, Nat.reduceEqDiff, reduceCtorEq, Nat.reduceLeDiff, Nat.reduceSub, Nat.reduceMul, Nat.reduceLT, Int.reduceEq, Int.reduceLT, Int.reduceLE, Int.reduceBEq, Int.reduceBNe, Int.reduceToNat, Int.reduceNeg, Int.reduceSub, Int.reduceAdd]
  refine callH (pin_c h2 (by decide +kernel) (by decide +kernel) (by decide +kernel)) ?_
  rintro _ H3 n3 ⟨rfl, S3, ⟨N3, h3, hN3⟩, hn3, k3⟩
  have h3 : EpH H3 n3 S3 e N3 aD2 := h3
  have hl1 : ((aD1.last + 1 : Nat) : Int) = 1 := rfl
  simp only [push_cast, Nat.reduceBEq, Nat.reduceAdd, Nat.reduceEqDiff, reduceCtorEq, Nat.reduceLeDiff, Nat.reduceSub, Nat.reduceMul, Nat.reduceLT, Int.reduceEq, Int.reduceLT, Int.reduceLE, Int.reduceBEq, Int.reduceBNe, Int.reduceToNat, Int.reduceNeg, Int.reduceSub, Int.reduceAdd, hl1]
  have hn3' : ∀ j, S3 j → j < n3 := h3.lt
  have h3b := h3.frame (H' := upd H3 n3 (some (.row false 5 (aB.map byteA)))) (n' := n3 + 1) (by omega) fun j hj => upd_other (by have := hn3' j hj; omega)
  refine callH (retire_c h3b (k := 0) (g := n3) (r := aR) (l := aL) (b := aB) (d' := aP) (o := 0) (s0 := 0) (l' := aL2) rfl rfl rfl (by decide) (by decide) aAlloc aPiece rfl rfl aLands (m0 := false) (e0 := 5) (upd_same _ _ _) (Nat.lt_succ_self _) (fun hs => by have := hn3' _ hs; omega) rfl (by decide)) ?_
  rintro _ H4 n4 ⟨rfl, S4, ⟨N4, h4, hN4⟩, hn4, k4⟩
  have h4 : EpH H4 n4 S4 e N4 aD3 := h4
  unfold noteA
  simp only [push_cast, Nat.reduceBEq, Nat.reduceAdd, Nat.reduceEqDiff, reduceCtorEq, Nat.reduceLeDiff, Nat.reduceSub, Nat.reduceMul, Nat.reduceLT, Int.reduceEq, Int.reduceLT, Int.reduceLE, Int.reduceBEq, Int.reduceBNe, Int.reduceToNat, Int.reduceNeg, Int.reduceSub, Int.reduceAdd]
  have z1 : ((aD2.now : Nat) : Int) = 1 := rfl
  have z2 : ((aR.region : Nat) : Int) = 0 := rfl
  have z3 : ((aL.gen : Nat) : Int) = 1 := rfl
  have z4 : ((aB.length : Nat) : Int) = 3 := rfl
  rw [z1, z2, z3, z4]
  have hS4 : ∀ j, S4 j → j < n4 := h4.lt
  have h4b := fun o => h4.frame (H' := upd (upd H4 n4 o) n4 (some (.cells [.lit (.int .i64 1), .lit (.int .i64 0), .lit (.int .i64 1), .lit (.int .i64 0), .lit (.int .i64 3)]))) (n' := n4 + 1) (by omega) fun j hj => by have := hS4 j hj; rw [upd_other (by omega), upd_other (by omega)]
  have v4 : ∀ o, upd (upd H4 n4 o) n4 (some (.cells [.lit (.int .i64 1), .lit (.int .i64 0), .lit (.int .i64 1), .lit (.int .i64 0), .lit (.int .i64 3)])) n4 = some (.cells [.lit (.int .i64 1), .lit (.int .i64 0), .lit (.int .i64 1), .lit (.int .i64 0), .lit (.int .i64 3)]) := fun o => upd_same _ _ _
  have hnS4 : ¬ S4 n4 := fun hs => by have := hS4 _ hs; omega
  have f4 : ∀ o j, j < n4 → upd (upd H4 n4 o) n4 (some (.cells [.lit (.int .i64 1), .lit (.int .i64 0), .lit (.int .i64 1), .lit (.int .i64 0), .lit (.int .i64 3)])) j = H4 j := fun o j hj => by rw [upd_other (by omega), upd_other (by omega)]
  obtain ⟨H4b, hH4b⟩ : ∃ X, X = upd (upd H4 n4 (some (.cells [.lit (.int .i64 0), .lit (.int .i64 0), .lit (.int .i64 0), .lit (.int .i64 0), .lit (.int .i64 0)]))) n4 (some (.cells [.lit (.int .i64 1), .lit (.int .i64 0), .lit (.int .i64 1), .lit (.int .i64 0), .lit (.int .i64 3)])) := ⟨_, rfl⟩
  rw [← hH4b]
  have h4b := h4b (some (.cells [.lit (.int .i64 0), .lit (.int .i64 0), .lit (.int .i64 0), .lit (.int .i64 0), .lit (.int .i64 0)]))
  have v4 := v4 (some (.cells [.lit (.int .i64 0), .lit (.int .i64 0), .lit (.int .i64 0), .lit (.int .i64 0), .lit (.int .i64 0)]))
  have f4 := f4 (some (.cells [.lit (.int .i64 0), .lit (.int .i64 0), .lit (.int .i64 0), .lit (.int .i64 0), .lit (.int .i64 0)]))
  rw [← hH4b] at h4b v4 f4
  clear hH4b
  refine callH (advance_c h4b (i := 1) (l := landZ) rfl rfl (fun j l hj hl => by
    obtain rfl : j = 0 := by omega
    have : l = aL2 := by
      have e : aD3.pool.lands[0]? = some aL2 := by kernel_rfl
      rw [e] at hl
      injection hl with hl
      exact hl.symm
    rw [this]; rfl) (by decide) (by decide +kernel)) ?_
  rintro _ H5 n5 ⟨rfl, S5, ⟨N5, h5, hN5⟩, hn5, k5⟩
  have h5 : EpH H5 n5 S5 e N5 aD4 := h5
  have v5 : H5 n4 = _ := (k5 n4 (by omega) hnS4).1.trans v4
  have hnS5 : ¬ S5 n4 := (k5 n4 (by omega) hnS4).2
  have z5 : ((aD3.now + 1 : Nat) : Int) = 2 := rfl
  simp only [push_cast, Nat.reduceBEq, Nat.reduceAdd, Nat.reduceEqDiff, reduceCtorEq, Nat.reduceLeDiff, Nat.reduceSub, Nat.reduceMul, Nat.reduceLT, Int.reduceEq, Int.reduceLT, Int.reduceLE, Int.reduceBEq, Int.reduceBNe, Int.reduceToNat, Int.reduceNeg, Int.reduceSub, Int.reduceAdd, z5]
  refine callH (collect_c h5 (by decide +kernel) aOld4 (c := 0) (.inr ⟨by decide +kernel, rfl⟩)) ?_
  rintro _ H6 n6 ⟨rfl, S6, ⟨N6, h6, hN6⟩, hn6, k6⟩
  have h6 : EpH H6 n6 S6 e N6 aD4 := h6
  have v6 : H6 n4 = _ := (k6 n4 (by omega) hnS5).1.trans v5
  have hnS6 : ¬ S6 n4 := (k6 n4 (by omega) hnS5).2
  simp only [push_cast, Nat.reduceBEq, Nat.reduceAdd, Nat.reduceEqDiff, reduceCtorEq, Nat.reduceLeDiff, Nat.reduceSub, Nat.reduceMul, Nat.reduceLT, Int.reduceEq, Int.reduceLT, Int.reduceLE, Int.reduceBEq, Int.reduceBNe, Int.reduceToNat, Int.reduceNeg, Int.reduceSub, Int.reduceAdd, v6]
  refine callH (loadE_c h6 (k := 0) (r := ⟨0, [⟨aX, (), 0⟩], 1, 3⟩) (x := aX) (l := aL2) (s := 0) rfl (by kernel_rfl) rfl aPiece4 rfl rfl) ?_
  rintro _ H7 n7 ⟨g, rfl, hg1, hg2, hgr, k7⟩
  have h7 := h6.frame (H' := H7) (n' := n7) (by omega) fun j hj => k7 j (h6.lt j hj)
  have v7 : H7 n4 = _ := (k7 n4 (by omega)).trans v6
  have hgr : H7 g = some (.row true 5 (aB.map byteA)) := by rw [hgr, show aX.off = 0 from rfl, show aX.len = 3 from rfl, aBytes]
  have y1 : aX.len = 3 := rfl
  have y2 : List.take 3 (aB.map byteA) = aB.map byteA := rfl
  have y3 : Nat.ble 3 (aB.map byteA).length = true := rfl
  have y3' : Nat.ble 3 aB.length = true := rfl
  have y4 := aStr
  have y5 : strOfNums [97, 98, 99] = ⟨#[97, 98, 99]⟩ := by kernel_rfl
  simp only [push_cast, Nat.reduceBEq, Nat.reduceAdd, Nat.reduceEqDiff, reduceCtorEq, Nat.reduceLeDiff, Nat.reduceSub, Nat.reduceMul, Nat.reduceLT, Int.reduceEq, Int.reduceLT, Int.reduceLE, Int.reduceBEq, Int.reduceBNe, Int.reduceToNat, Int.reduceNeg, Int.reduceSub, Int.reduceAdd, hgr, y1, y2, y3, y3', y4, y5]
  refine callH (unpin_c h7 (k := 1) (v := 1) (by kernel_rfl)) ?_
  rintro _ H8 n8 ⟨rfl, S8, ⟨N8, h8, hN8⟩, hn8, k8⟩
  have h8 : EpH H8 n8 S8 e N8 aD5 := h8
  have v8 : H8 n4 = _ := (k8 n4 (by omega) hnS6).1.trans v7
  have hnS8 : ¬ S8 n4 := (k8 n4 (by omega) hnS6).2
  simp only [push_cast, Nat.reduceBEq, Nat.reduceAdd, Nat.reduceEqDiff, reduceCtorEq, Nat.reduceLeDiff, Nat.reduceSub, Nat.reduceMul, Nat.reduceLT, Int.reduceEq, Int.reduceLT, Int.reduceLE, Int.reduceBEq, Int.reduceBNe, Int.reduceToNat, Int.reduceNeg, Int.reduceSub, Int.reduceAdd]
  refine callH (collect_c h8 (by decide +kernel) aOld5 (c := 1) (.inl (by decide +kernel))) ?_
  rintro _ H9 n9 ⟨rfl, S9, ⟨N9, h9, hN9⟩, hn9, k9⟩
  have h9 : EpH H9 n9 S9 e N9 aD6 := h9
  have v9 : H9 n4 = _ := (k9 n4 (by omega) hnS8).1.trans v8
  simp only [push_cast, Nat.reduceBEq, Nat.reduceAdd, Nat.reduceEqDiff, reduceCtorEq, Nat.reduceLeDiff, Nat.reduceSub, Nat.reduceMul, Nat.reduceLT, Int.reduceEq, Int.reduceLT, Int.reduceLE, Int.reduceBEq, Int.reduceBNe, Int.reduceToNat, Int.reduceNeg, Int.reduceSub, Int.reduceAdd, v9]
  refine callH (load_stale h9 (x := aX) (.inl (by decide +kernel))) ?_
  rintro _ HA nA ⟨⟨v, rfl⟩, hnA, kA⟩
  have hA := h9.frame (H' := HA) (n' := nA) (by omega) fun j hj => kA j (h9.lt j hj)
  obtain ⟨Sp, ⟨PN, pA⟩, _⟩ := hA.pool
  have hp : N9.p = p := by rw [hN9, hN8, hN6, hN5, hN4, hN3, hN2]
  rw [hp] at pA
  have z7 : ((1 : Nat) : Int) = 1 := rfl
  simp only [push_cast, Nat.reduceBEq, Nat.reduceAdd, Nat.reduceEqDiff, reduceCtorEq, Nat.reduceLeDiff, Nat.reduceSub, Nat.reduceMul, Nat.reduceLT, Int.reduceEq, Int.reduceLT, Int.reduceLE, Int.reduceBEq, Int.reduceBNe, Int.reduceToNat, Int.reduceNeg, Int.reduceSub, Int.reduceAdd, z7]
  refine callH (idle_h pA) ?_
  rintro _ HB nB ⟨hr, hH, hn⟩
  rw [hr, hH, hn, aIdle]
  have z8 : ((4 : Nat) : Int) = 4 := rfl
  simp only [push_cast, Nat.reduceBEq, Nat.reduceAdd, Nat.reduceEqDiff, reduceCtorEq, Nat.reduceLeDiff, Nat.reduceSub, Nat.reduceMul, Nat.reduceLT, Int.reduceEq, Int.reduceLT, Int.reduceLE, Int.reduceBEq, Int.reduceBNe, Int.reduceToNat, Int.reduceNeg, Int.reduceSub, Int.reduceAdd, z8]
  refine callH (kept_c hA (by rw [aKept]; decide)) ?_
  rintro _ HC nC ⟨hr, hnC, kC⟩
  rw [hr, aKept]
  have z9 : ((0 : Nat) : Int) = 0 := rfl
  simp only [push_cast, Nat.reduceBEq, Nat.reduceAdd, Nat.reduceEqDiff, reduceCtorEq, Nat.reduceLeDiff, Nat.reduceSub, Nat.reduceMul, Nat.reduceLT, Int.reduceEq, Int.reduceLT, Int.reduceLE, Int.reduceBEq, Int.reduceBNe, Int.reduceToNat, Int.reduceNeg, Int.reduceSub, Int.reduceAdd, z9]
  have b1 : n ≤ n1 := hn1
  have b2 : n1 ≤ n2 := hn2
  have b3 : n2 ≤ n3 := hn3
  have b4 : n3 + 1 ≤ n4 := hn4
  have b5 : n4 + 1 ≤ n5 := hn5
  have b6 : n5 ≤ n6 := hn6
  have b8 : n7 ≤ n8 := hn8
  have b9 : n8 ≤ n9 := hn9
  have bA : n9 ≤ nA := hnA
  have bC : nA ≤ nC := hnC
  have b7 : n6 ≤ n7 := by omega
  refine ⟨by omega, fun j hj => ?_⟩
  have s1 : ¬ S1 j := fun hs => by have : n ≤ j := hS1 j hs; omega
  obtain ⟨a2, s2⟩ := k2 j (show j < n1 by omega) s1
  obtain ⟨a3, s3⟩ := k3 j (show j < n2 by omega) s2
  obtain ⟨a4, s4⟩ := k4 j (show j < n3 + 1 by omega) s3
  obtain ⟨a5, s5⟩ := k5 j (show j < n4 + 1 by omega) s4
  obtain ⟨a6, s6⟩ := k6 j (show j < n5 by omega) s5
  obtain ⟨a8, s8⟩ := k8 j (show j < n7 by omega) s6
  obtain ⟨a9, s9⟩ := k9 j (show j < n8 by omega) s8
  have aC : HC j = HA j := kC j (show j < nA by omega)
  have a2 : H2 j = H1 j := a2
  have a3 : H3 j = H2 j := a3
  have a6 : H6 j = H5 j := a6
  have a8 : H8 j = H7 j := a8
  have a9 : H9 j = H8 j := a9
  have a1 : H1 j = H j := k1 j hj
  rw [aC, kA j (by omega), a9, a8, k7 j (by omega), a6, a5, f4 j (by omega), a4, upd_other (by omega), a3, a2, a1]
end
end Go.Proofs.Ytndojmpgadbefaa
