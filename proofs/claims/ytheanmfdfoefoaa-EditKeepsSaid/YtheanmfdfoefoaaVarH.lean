/- The numbers' short form, by the walk over a heap. -/
import Derived.Test.YtheanmfdfoefoaaHvTab
import Derived.Test.YtheanmfdfoefoaaBytes
set_option linter.unusedVariables false
namespace Go.Proofs.Ytheanmfdfoefoaa
open Go Go.RowKit Hv
set_option linter.unusedSimpArgs false

def byL (l : List UInt8) : List (List AV) := l.map byteA
theorem byL_append (a b : List UInt8) : byL (a ++ b) = byL a ++ byL b := List.map_append ..
theorem byL_len (a : List UInt8) : (byL a).length = a.length := List.length_map ..
theorem noId_by (l : List UInt8) : NoId (.sl (byL l)) := by simp [noId_sl, byL, byteA, noId_lit]
theorem or_byte (m : Nat) : IntKind.u8.wrap ((BitVec.ofInt IntKind.u8.bits (IntKind.u8.wrap (m : Int)) ||| BitVec.ofInt IntKind.u8.bits 128).toNat : Int) = ((UInt8.ofNat (m % 128 + 128)).toNat : Int) := by
  have e : IntKind.u8.wrap (m : Int) = (m : Int) % 256 := by simp [IntKind.wrap, IntKind.bits, IntKind.signed]
  rw [e]
  exact or128 m
theorem shr7 (q : Nat) : ((q : Int)).fdiv (2 ^ (min 7 IntKind.u64.bits)) = ((q / 128 : Nat) : Int) := by
  have : (2 : Int) ^ (min 7 IntKind.u64.bits) = 128 := by decide
  rw [this, Int.fdiv_eq_ediv_of_nonneg _ (by omega)]
  omega
theorem low_byte (q : Nat) : IntKind.u8.wrap (q : Int) = ((UInt8.ofNat q).toNat : Int) := by
  simp only [IntKind.wrap, IntKind.bits, IntKind.signed, UInt8.toNat_ofNat']
  simp
set_option maxRecDepth 20000 in
set_option maxHeartbeats 4000000 in
theorem put_h (n : Nat) (hn : n < U64) : Hv.ACalls Try.prog 75 [.lit (.int .u64 (n : Int))] (.sl (byL (putB n))) := by
  refine acallsC_of (rs := [.tmp 2]) ⟨[0, 2, 3, 5], [], [], [], [], []⟩ TOk mixed Try.func75 rfl rfl (by kernel_rfl) (by kernel_rfl) rfl (by simp [noId_lit]) (noId_by _) ?_
  simp only [push_cast, Nat.reduceBEq, Nat.reduceAdd, Nat.reduceEqDiff, reduceCtorEq, Nat.reduceLeDiff, Nat.reduceSub, Nat.reduceMul, Nat.reduceLT, Int.reduceEq, Int.reduceLT, Int.reduceLE, Int.reduceBEq, Int.reduceBNe, Int.reduceToNat, Int.reduceNeg, Int.reduceSub, Int.reduceAdd]
  refine loopK (fun m s => ∃ (q id nx : Nat) (l : List UInt8) (H : Hp), q < U64 ∧ l ++ putB q = putB n ∧ id < nx ∧ H id = some (.row false 5 (byL l)) ∧ m = q ∧ s = ⟨[(0, .lit (.int .u64 (q : Int))), (3, .rw id 1 0 l.length)], H, nx⟩) _ [0, 3] ⟨n, 1, 2, [], _, hn, rfl, by omega, rfl, rfl, rfl⟩ ?_
  rintro m _ ⟨q, id, nx, l, H, hq, hl, hid, hrow, hmq, rfl⟩
  have hlen : l.length ≤ 11 := by
    have := putB_length n
    rw [← hl, List.length_append] at this
    omega
  have hb : l.length ≤ 140737488355327 := by omega
  have hne : (nx == id) = false := by rw [← Bool.not_eq_true, beq_iff_eq]; omega
  by_cases h : (128 : Int) ≤ (q : Int)
  · have hs := shr7 q
    have h127 : ¬ (7 : Int) < 0 := by omega
    have hbig := putB_big q (by omega) hq
    simp only [push_cast, Nat.reduceBEq, Nat.reduceAdd, Nat.reduceEqDiff, reduceCtorEq, Nat.reduceLeDiff, Nat.reduceSub, Nat.reduceMul, Nat.reduceLT, Int.reduceEq, Int.reduceLT, Int.reduceLE, Int.reduceBEq, Int.reduceBNe, Int.reduceToNat, Int.reduceNeg, Int.reduceSub, Int.reduceAdd, h, ge_iff_le, hrow, hb, hne, byL_len, or_byte, h127, hs, nbq1_0 nx]
    refine ⟨q / 128, by omega, q / 128, nx + 1, nx + 1 + 1, l ++ [UInt8.ofNat (q % 128 + 128)], _, by omega, ?_, by omega, ?_, rfl, by rw [List.length_append]; rfl⟩
    · rw [List.append_assoc, List.singleton_append, ← hbig, hl]
    · rw [byL_append]; exact upd_same _ _ _
  · have hsm := putB_small q (by omega)
    have hlow := low_byte q
    simp only [push_cast, Nat.reduceBEq, Nat.reduceAdd, Nat.reduceEqDiff, reduceCtorEq, Nat.reduceLeDiff, Nat.reduceSub, Nat.reduceMul, Nat.reduceLT, Int.reduceEq, Int.reduceLT, Int.reduceLE, Int.reduceBEq, Int.reduceBNe, Int.reduceToNat, Int.reduceNeg, Int.reduceSub, Int.reduceAdd, h, ge_iff_le, hrow, hb, hne, byL_len, hlow, nbq1_0 nx]
    have hfull : byL l ++ [[AV.lit (.int .u8 ((UInt8.ofNat q).toNat : Int))]] = byL (putB n) := by rw [← hl, hsm, byL_append]; rfl
    have hln : l.length + 1 = (byL (putB n)).length := by rw [← hfull, List.length_append, byL_len]; rfl
    rw [hfull, hln, ble_self, List.take_length]; rfl
theorem row_len {l : List UInt8} {k : Nat} (h : k = l.length) : (byL l).take k = byL l := by rw [h, ← byL_len, List.take_length]
def zig (z : Int) : Nat := if 0 ≤ z then (2 * z).toNat else 1
theorem zig_run {z : Int} (h : -1 ≤ z) (h' : z < 4611686018427387904) : IntKind.u64.wrap ((BitVec.ofInt IntKind.u64.bits (IntKind.u64.wrap (IntKind.i64.wrap (z * 2 ^ min 1 IntKind.i64.bits))) ^^^ BitVec.ofInt IntKind.u64.bits (IntKind.u64.wrap (z.fdiv (2 ^ min 63 IntKind.i64.bits)))).toNat : Int) = (zig z : Int) := by
  by_cases h0 : 0 ≤ z
  · have e1 : (2 : Int) ^ min 1 IntKind.i64.bits = 2 := by decide
    have e2 : (2 : Int) ^ min 63 IntKind.i64.bits = 9223372036854775808 := by decide
    have e3 : z.fdiv 9223372036854775808 = 0 := by rw [Int.fdiv_eq_ediv_of_nonneg _ (by omega)]; omega
    have e4 : IntKind.u64.wrap 0 = 0 := by decide
    have e5 : IntKind.u64.wrap (IntKind.i64.wrap (z * 2)) = z * 2 := by
      simp only [IntKind.wrap, IntKind.bits, IntKind.signed]
      simp; omega
    rw [e1, e2, e3, e4, e5]
    have e6 : (BitVec.ofInt IntKind.u64.bits 0) = 0#_ := by decide
    rw [e6, BitVec.xor_zero, BitVec.toNat_ofInt]
    simp only [IntKind.wrap, IntKind.bits, IntKind.signed, zig, if_pos h0]
    simp; omega
  · obtain rfl : z = -1 := by omega
    decide
set_option maxRecDepth 20000 in
set_option maxHeartbeats 4000000 in
theorem putSigned_h (z : Int) (h : -1 ≤ z) (h' : z < 4611686018427387904) : Hv.ACalls Try.prog 76 [.lit (.int .i64 z)] (.sl (byL (putB (zig z)))) := by
  refine acallsC_of (rs := [.tmp 2]) ⟨[0, 2], [], [], [], [], []⟩ TOk mixed Try.func76 rfl rfl (by kernel_rfl) (by kernel_rfl) rfl (by simp [noId_lit]) (noId_by _) ?_
  have hz := zig_run h h'
  have h1 : ¬ (1 : Int) < 0 := by omega
  have h63 : ¬ (63 : Int) < 0 := by omega
  simp only [push_cast, Nat.reduceBEq, Nat.reduceAdd, Nat.reduceEqDiff, reduceCtorEq, Nat.reduceLeDiff, Nat.reduceSub, Nat.reduceMul, Nat.reduceLT, Int.reduceEq, Int.reduceLT, Int.reduceLE, Int.reduceBEq, Int.reduceBNe, Int.reduceToNat, Int.reduceNeg, Int.reduceSub, Int.reduceAdd, h1, h63, hz]
  refine callK (put_h (zig z) (by unfold U64 zig; split <;> omega)) ?_
  simp only [push_cast, Nat.reduceBEq, Nat.reduceAdd, Nat.reduceEqDiff, reduceCtorEq, Nat.reduceLeDiff, Nat.reduceSub, Nat.reduceMul, Nat.reduceLT, Int.reduceEq, Int.reduceLT, Int.reduceLE, Int.reduceBEq, Int.reduceBNe, Int.reduceToNat, Int.reduceNeg, Int.reduceSub, Int.reduceAdd]
theorem u64_nat {n : Nat} (h : n < 18446744073709551616) : IntKind.u64.wrap (n : Int) = (n : Int) := by
  simp [IntKind.wrap, IntKind.bits, IntKind.signed]; omega
/-- What a variable of bytes holds. -/
def BIs (H : Hp) (lo hi : Nat) (c : AV) (l : List UInt8) : Prop :=
  (c = .lit (.slice none 0 0) ∧ l = []) ∨ ∃ id, c = .rw id 1 0 l.length ∧ H id = some (.row false 5 (byL l)) ∧ lo ≤ id ∧ id < hi
theorem BIs.mono {H H' : Hp} {lo hi lo' hi' : Nat} {c : AV} {l : List UInt8} (h : BIs H lo hi c l) (h1 : lo' ≤ lo) (h2 : hi ≤ hi') (hh : ∀ j, lo ≤ j → j < hi → H' j = H j) : BIs H' lo' hi' c l := by
  rcases h with h | ⟨id, a, b, c, d⟩
  · exact .inl h
  · exact .inr ⟨id, a, by rw [hh id c d]; exact b, by omega, by omega⟩
end Go.Proofs.Ytheanmfdfoefoaa
