/- Chapter 7's low: a text of up to nine letters, by the walk over a heap. -/
import Derived.Test.YtjmafbdakalknaaDoorFsC
set_option linter.unusedVariables false
set_option linter.unusedSimpArgs false
namespace Go.Proofs.YtjmafbdakalknaaDoor
open Go Go.RowKit Hv
set_option maxRecDepth 20000
set_option maxHeartbeats 4000000
def LowP (H : Hp) (n : Nat) (r : AV) (H' : Hp) (n' : Nat) : Prop := ∃ L : ByteArray, r = .lit (.string L) ∧ L.size ≤ 9 ∧ n ≤ n' ∧ ∀ j, j < n → H' j = H j
theorem low_h {H : Hp} {n : Nat} (s : ByteArray) (hs : s.size ≤ 4611686018427387904) : HCalls Tryd.prog 24 [.lit (.string s)] H n (LowP H n) := by
  refine hcallsC_of (rs := [.tmp 2]) ⟨[0, 2, 3, 4, 13, 25], [], [], []⟩ TOk mixed Tryd.func24 rfl rfl (by kernel_rfl) (by kernel_rfl) rfl ?_
  simp only [push_cast, Nat.reduceBEq, Nat.reduceAdd, Nat.reduceEqDiff, reduceCtorEq, Nat.reduceLeDiff, Nat.reduceSub, Nat.reduceMul, Nat.reduceLT, Int.reduceEq, Int.reduceLT, Int.reduceLE, Int.reduceBEq, Int.reduceBNe, Int.reduceToNat, Int.reduceNeg, Int.reduceSub, Int.reduceAdd]
  refine loopK (fun q st => ∃ (k : Nat) (L : List UInt8) (g : Nat) (Hc : Hp) (nn : Nat), st = ⟨[(0, .lit (.string s)), (3, .rw g 1 0 L.length), (4, .lit (.int .i64 (k : Int)))], Hc, nn⟩ ∧ k ≤ s.size ∧ q = s.size - k ∧ L.length ≤ 9 ∧ Hc g = some (.row false 5 (byL L)) ∧ n ≤ nn ∧ (n ≤ g ∧ g < nn) ∧ ∀ j, j < n → Hc j = H j) _ [0, 3, 4] ⟨0, [], n, _, _, rfl, Nat.zero_le _, rfl, Nat.zero_le _, upd_same _ _ _, Nat.le_succ _, ⟨Nat.le_refl _, Nat.lt_succ_self _⟩, fun j hj => upd_other (by omega)⟩ ?_
  rintro q _ ⟨k, L, g, Hc, nn, rfl, hk, rfl, hL, hg, hn, hgn, hh⟩
  by_cases hks : k < s.size
  · have hks' : (k : Int) < (s.size : Int) := by omega
    by_cases hl9 : (L.length : Int) < 9
    · obtain ⟨b, hb⟩ : ∃ b, s.data.toList[k]? = some b := ⟨_, List.getElem?_eq_getElem hks⟩
      have hix : aindexS s (k : Int) = some (.lit (.int .u8 b.toNat)) := by
        unfold aindexS
        rw [if_pos (by omega), Int.toNat_natCast, hb]
      have hw := wrap_nat0 (k := k) (by omega)
      have hgl : Nat.ble L.length (byL L).length = true := by rw [Nat.ble_eq, byL_len]; exact Nat.le_refl _
      have htk : List.take L.length (byL L) = byL L := List.take_of_length_le (Nat.le_of_eq (byL_len L))
      have e1 : (nn == g) = false := nb (by omega)
      have hlen : L.length + 1 = (L ++ [b]).length := by rw [List.length_append]; rfl
      have hnw : byL L ++ [[.lit (.int .u8 b.toNat)]] = byL (L ++ [b]) := by unfold byL; rw [List.map_append]; rfl
      have hll : L.length ≤ 140737488355327 := by omega
      have hl2 : (L ++ [b]).length ≤ 140737488355328 := by rw [← hlen]; omega
      obtain ⟨P1, hP1⟩ : ∃ B, decide ((b.toNat : Int) ≥ 97) = B := ⟨_, rfl⟩
      obtain ⟨P2, hP2⟩ : ∃ B, decide ((b.toNat : Int) ≤ 122) = B := ⟨_, rfl⟩
      cases P1
      · simp only [push_cast, Nat.reduceBEq, Nat.reduceAdd, Nat.reduceEqDiff, reduceCtorEq, Nat.reduceLeDiff, Nat.reduceSub, Nat.reduceMul, Nat.reduceLT, Int.reduceEq, Int.reduceLT, Int.reduceLE, Int.reduceBEq, Int.reduceBNe, Int.reduceToNat, Int.reduceNeg, Int.reduceSub, Int.reduceAdd, hks, hks', hl9, hix, hP1, hP2, hw]
        exact ⟨_, by omega, k + 1, L, g, _, _, rfl, by omega, rfl, hL, hg, hn, hgn, hh⟩
      · cases P2
        · simp only [push_cast, Nat.reduceBEq, Nat.reduceAdd, Nat.reduceEqDiff, reduceCtorEq, Nat.reduceLeDiff, Nat.reduceSub, Nat.reduceMul, Nat.reduceLT, Int.reduceEq, Int.reduceLT, Int.reduceLE, Int.reduceBEq, Int.reduceBNe, Int.reduceToNat, Int.reduceNeg, Int.reduceSub, Int.reduceAdd, hks, hks', hl9, hix, hP1, hP2, hw]
          exact ⟨_, by omega, k + 1, L, g, _, _, rfl, by omega, rfl, hL, hg, hn, hgn, hh⟩
        · simp only [push_cast, Nat.reduceBEq, Nat.reduceAdd, Nat.reduceEqDiff, reduceCtorEq, Nat.reduceLeDiff, Nat.reduceSub, Nat.reduceMul, Nat.reduceLT, Int.reduceEq, Int.reduceLT, Int.reduceLE, Int.reduceBEq, Int.reduceBNe, Int.reduceToNat, Int.reduceNeg, Int.reduceSub, Int.reduceAdd, hks, hks', hl9, hix, hP1, hP2, hw, hg, hgl, htk, e1, byL_len, hll, hlen, hl2]
          exact ⟨_, by omega, k + 1, L ++ [b], nn + 1, _, _, rfl, by omega, rfl, by rw [← hlen]; omega, (upd_same _ _ _).trans (by rw [hnw]), by omega, by omega, fun j hj => (upd_other (by omega)).trans ((upd_other (by omega)).trans ((upd_other (by omega)).trans (hh j hj)))⟩
    · have hgl : Nat.ble L.length (byL L).length = true := by rw [Nat.ble_eq, byL_len]; exact Nat.le_refl _
      have htk : List.take L.length (byL L) = byL L := List.take_of_length_le (Nat.le_of_eq (byL_len L))
      simp only [push_cast, Nat.reduceBEq, Nat.reduceAdd, Nat.reduceEqDiff, reduceCtorEq, Nat.reduceLeDiff, Nat.reduceSub, Nat.reduceMul, Nat.reduceLT, Int.reduceEq, Int.reduceLT, Int.reduceLE, Int.reduceBEq, Int.reduceBNe, Int.reduceToNat, Int.reduceNeg, Int.reduceSub, Int.reduceAdd, hks, hks', hl9, hg, hgl, htk, bytesOf_byL, strOf_byL]
      exact ⟨_, rfl, hL, hn, hh⟩
  · have hgl : Nat.ble L.length (byL L).length = true := by rw [Nat.ble_eq, byL_len]; exact Nat.le_refl _
    have htk : List.take L.length (byL L) = byL L := List.take_of_length_le (Nat.le_of_eq (byL_len L))
    simp only [push_cast, Nat.reduceBEq, Nat.reduceAdd, Nat.reduceEqDiff, reduceCtorEq, Nat.reduceLeDiff, Nat.reduceSub, Nat.reduceMul, Nat.reduceLT, Int.reduceEq, Int.reduceLT, Int.reduceLE, Int.reduceBEq, Int.reduceBNe, Int.reduceToNat, Int.reduceNeg, Int.reduceSub, Int.reduceAdd, hks, hg, hgl, htk, bytesOf_byL, strOf_byL]
    exact ⟨_, rfl, hL, hn, hh⟩
end Go.Proofs.YtjmafbdakalknaaDoor
