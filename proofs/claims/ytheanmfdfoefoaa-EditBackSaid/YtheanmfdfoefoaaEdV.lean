/- Numbers and texts as bytes, there and back: the program's and the reference's, for the walk over a heap. -/
import Derived.Test.YtheanmfdfoefoaaRefReadE
import Derived.Test.YtheanmfdfoefoaaLawE
import Derived.Test.YtheanmfdfoefoaaEncW
import Derived.Test.YtheanmfdfoefoaaHvRd
set_option linter.unusedVariables false
set_option linter.unusedSimpArgs false
namespace Go.Proofs.Ytheanmfdfoefoaa
open Go Go.RowKit Hv
set_option maxRecDepth 20000
set_option maxHeartbeats 4000000
theorem byteA_lit (b : UInt8) : byteA b = (byC b).map AV.lit := rfl
theorem rdB_of {w : World} {W : Nat → Nat → Prop} {gb : Gb} {l : List UInt8} {v : Value} (h : Rep w W gb (.sl (byL l)) v) : RdB w v l := by
  have := rd_of_rep byteA_lit byC_len h
  unfold RdT at this
  rw [bc_flat] at this
  exact this
theorem rep_tup3 {w : World} {W : Nat → Nat → Prop} {gb : Gb} {a b c : Value} : Rep w W gb (.tup [.lit a, .lit b, .lit c]) (.tuple #[a, b, c]) :=
  Rep.tup [.lit a, .lit b, .lit c] [a, b, c] rfl fun j x u hx hu => by
    match j with
    | 0 => simp at hx hu; subst hx hu; exact .lit _
    | 1 => simp at hx hu; subst hx hu; exact .lit _
    | 2 => simp at hx hu; subst hx hu; exact .lit _
    | j + 3 => simp at hx
def getA (l : List UInt8) : AV := .tup [.lit (.int .u64 ((getB l).1 : Int)), .lit (.int .i64 ((getB l).2.1 : Int)), .lit (.int .i64 (getB l).2.2)]
theorem get_h (l : List UInt8) : Hv.ACalls Try.prog 108 [.sl (byL l)] (getA l) := by
  refine ⟨by kernel_rfl, fun w W gb vs hW hl hr => ?_⟩
  match vs, hl, hr with
  | [v], _, hr => exact (Get_calls l v w (rdB_of (hr 0 _ _ rfl rfl))).mono fun e w' h => ⟨_, h.1, rep_tup3, by rw [← h.2]; exact Below.refl _ _⟩
theorem getText_h (l : List UInt8) (most : Nat) (hm : most < 4294967296) : Hv.ACalls Try.prog 109 [.sl (byL l), .lit (.int .i64 (most : Int))] (.tup [.lit (.string ⟨(textG l most).1.toArray⟩), .lit (.int .i64 ((textG l most).2.1 : Int)), .lit (.int .i64 (textG l most).2.2)]) := by
  refine ⟨by kernel_rfl, fun w W gb vs hW hl hr => ?_⟩
  match vs, hl, hr with
  | [v, u], _, hr =>
    obtain rfl := rep_lit (hr 1 _ _ rfl rfl)
    exact (GetText_calls l most hm v w (rdB_of (hr 0 _ _ rfl rfl))).mono fun e w' h => ⟨_, h.1, rep_tup3, by rw [← h.2]; exact Below.refl _ _⟩
theorem rput_h (n : Nat) (hn : n < U64) : Hv.ACalls Try.prog 70 [.lit (.int .u64 (n : Int))] (.lit (.string (str (putB n)))) :=
  acalls_lit (us := [.int .u64 (n : Int)]) (by kernel_rfl) rfl fun w => RPut_calls n hn w
theorem rtext_h (s : ByteArray) (hs : s.size ≤ 140737488351232) : Hv.ACalls Try.prog 73 [.lit (.string s)] (.lit (.string (str (textB s)))) :=
  acalls_lit (us := [.string s]) (by kernel_rfl) rfl fun w => RText_calls s hs w
theorem rget_h (l : List UInt8) (hl : l.length ≤ 9223372036854775807) : Hv.ACalls Try.prog 105 [.lit (.string (str l))] (getA l) := by
  refine ⟨by kernel_rfl, fun w W gb vs hW hl' hr => ?_⟩
  match vs, hl', hr with
  | [v], _, hr =>
    obtain rfl := rep_lit (hr 0 _ _ rfl rfl)
    exact (RGet_calls l hl w).mono fun e w' h => ⟨_, h.1, rep_tup3, by rw [← h.2]; exact Below.refl _ _⟩
theorem rgetText_h (l : List UInt8) (hl : l.length ≤ 9223372036854775807) (most : Nat) (hm : most < 4294967296) : Hv.ACalls Try.prog 106 [.lit (.string (str l)), .lit (.int .i64 (most : Int))] (.tup [.lit (.string (str (textG l most).1)), .lit (.int .i64 ((textG l most).2.1 : Int)), .lit (.int .i64 (textG l most).2.2)]) := by
  refine ⟨by kernel_rfl, fun w W gb vs hW hl' hr => ?_⟩
  match vs, hl', hr with
  | [v, u], _, hr =>
    obtain rfl := rep_lit (hr 0 _ _ rfl rfl)
    obtain rfl := rep_lit (hr 1 _ _ rfl rfl)
    exact (RGetText_calls l hl most hm w).mono fun e w' h => ⟨_, h.1, rep_tup3, by rw [← h.2]; exact Below.refl _ _⟩
/-- What a folded number is. -/
def unz (n : Nat) : Int := if n % 2 = 1 then -((n / 2 : Nat) : Int) - 1 else ((n / 2 : Nat) : Int)
theorem unz_run {n : Nat} (hn : n < 18446744073709551616) : IntKind.i64.wrap ((BitVec.ofInt IntKind.i64.bits (IntKind.i64.wrap (((n : Int)).fdiv (2 ^ (min 1 IntKind.u64.bits)))) ^^^ BitVec.ofInt IntKind.i64.bits (IntKind.i64.wrap (0 - IntKind.i64.wrap (IntKind.u64.wrap ((BitVec.ofInt IntKind.u64.bits (n : Int) &&& BitVec.ofInt IntKind.u64.bits 1).toNat : Int))))).toNat : Int) = unz n := by
  obtain ⟨q, r, hq, hr⟩ : ∃ q r : Nat, n = 2 * q + r ∧ r < 2 := ⟨n / 2, n % 2, by omega, by omega⟩
  have e0 : (2 : Int) ^ (min 1 IntKind.u64.bits) = 2 := by decide
  have e1 : ((n : Int)).fdiv 2 = (q : Int) := by rw [Int.fdiv_eq_ediv_of_nonneg _ (by omega)]; omega
  have e2 : IntKind.i64.wrap (q : Int) = (q : Int) := IntWalk.i64_in _ (by omega)
  have e3 : (BitVec.ofInt IntKind.u64.bits (n : Int) &&& BitVec.ofInt IntKind.u64.bits 1).toNat = r := by
    rw [BitVec.toNat_and, BitVec.ofInt_natCast, show (BitVec.ofInt IntKind.u64.bits 1).toNat = 1 from rfl, BitVec.toNat_ofNat, Nat.and_one_is_mod]
    rw [show (2 : Nat) ^ IntKind.u64.bits = 18446744073709551616 from rfl]
    omega
  rw [e0, e1, e2, e3]
  have hqn : (BitVec.ofInt IntKind.i64.bits (q : Int)).toNat = q := by
    rw [BitVec.ofInt_natCast, BitVec.toNat_ofNat]
    exact Nat.mod_eq_of_lt (by show q < 18446744073709551616; omega)
  have hu : unz n = if r = 1 then -(q : Int) - 1 else (q : Int) := by
    unfold unz
    rw [show n % 2 = r by omega, show n / 2 = q by omega]
  rw [hu]
  have hr2 : r = 0 ∨ r = 1 := by omega
  rcases hr2 with rfl | rfl
  · rw [show IntKind.i64.wrap (0 - IntKind.i64.wrap (IntKind.u64.wrap ((0 : Nat) : Int))) = 0 from rfl, show BitVec.ofInt IntKind.i64.bits 0 = 0#(IntKind.i64.bits) from rfl, BitVec.xor_zero, hqn, e2]; rfl
  · rw [show IntKind.i64.wrap (0 - IntKind.i64.wrap (IntKind.u64.wrap ((1 : Nat) : Int))) = -1 from rfl, show BitVec.ofInt IntKind.i64.bits (-1) = BitVec.allOnes IntKind.i64.bits from rfl, BitVec.xor_allOnes, BitVec.toNat_not, hqn, if_pos rfl]
    rw [show (2 : Nat) ^ IntKind.i64.bits = 18446744073709551616 from rfl]
    simp only [IntKind.wrap, IntKind.bits, IntKind.signed]
    simp
    omega
theorem getSigned_h (l : List UInt8) : Hv.ACalls Try.prog 107 [.sl (byL l)] (.tup [.lit (.int .i64 (unz (getB l).1)), .lit (.int .i64 ((getB l).2.1 : Int)), .lit (.int .i64 (getB l).2.2)]) := by
  refine acallsC_of (rs := [.tmp 2, .tmp 3, .tmp 4]) ⟨[0, 2, 3, 4, 5, 6, 7], [], [], [], []⟩ TOk mixed Try.func107 rfl rfl (by kernel_rfl) (by kernel_rfl) rfl (nid1 (noId_by l)) (by simp [noId_tup, noId_lit]) ?_
  simp only [push_cast, Nat.reduceBEq, Nat.reduceAdd, Nat.reduceEqDiff, reduceCtorEq, Nat.reduceLeDiff, Nat.reduceSub, Nat.reduceMul, Nat.reduceLT, Int.reduceEq, Int.reduceLT, Int.reduceLE, Int.reduceBEq, Int.reduceBNe, Int.reduceToNat, Int.reduceNeg, Int.reduceSub, Int.reduceAdd]
  refine callK (get_h l) ?_
  unfold getA
  have h1 : ¬ (1 : Int) < 0 := by decide
  simp only [push_cast, Nat.reduceBEq, Nat.reduceAdd, Nat.reduceEqDiff, reduceCtorEq, Nat.reduceLeDiff, Nat.reduceSub, Nat.reduceMul, Nat.reduceLT, Int.reduceEq, Int.reduceLT, Int.reduceLE, Int.reduceBEq, Int.reduceBNe, Int.reduceToNat, Int.reduceNeg, Int.reduceSub, Int.reduceAdd, h1, unz_run (getB_lt l)]
theorem unfold_h {n : Nat} (hn : n < 18446744073709551616) : Hv.ACalls Try.prog 79 [.lit (.int .u64 (n : Int))] (.lit (.int .i64 (unz n))) := by
  refine acallsC_of (rs := [.tmp 2]) ⟨[0, 2, 5], [], [], [], []⟩ TOk mixed Try.func79 rfl rfl (by kernel_rfl) (by kernel_rfl) rfl (nid1 (.lit _)) (.lit _) ?_
  obtain ⟨q, r, hq, hr⟩ : ∃ q r : Nat, n = 2 * q + r ∧ r < 2 := ⟨n / 2, n % 2, by omega, by omega⟩
  have e1 : ((n : Int)).tmod 2 = (r : Int) := by rw [show (n : Int) = ((n : Nat) : Int) from rfl, show (2 : Int) = ((2 : Nat) : Int) from rfl, ← Int.ofNat_tmod]; congr 1; omega
  have e2 : ((n : Int)).tdiv 2 = (q : Int) := by rw [show (2 : Int) = ((2 : Nat) : Int) from rfl, ← Int.ofNat_tdiv]; congr 1; omega
  have e3 : IntKind.u64.wrap (q : Int) = (q : Int) := u64_nat (by omega)
  have e4 : IntKind.i64.wrap (q : Int) = (q : Int) := IntWalk.i64_in _ (by omega)
  have e5 : IntKind.i64.wrap (0 - (q : Int)) = -(q : Int) := by rw [Int.zero_sub]; exact IntWalk.i64_in _ (by omega)
  have e6 : IntKind.i64.wrap (-(q : Int) - 1) = -(q : Int) - 1 := IntWalk.i64_in _ (by omega)
  have e7 : IntKind.u64.wrap (r : Int) = (r : Int) := u64_nat (by omega)
  have hu : unz n = if r = 1 then -(q : Int) - 1 else (q : Int) := by
    unfold unz
    rw [show n % 2 = r by omega, show n / 2 = q by omega]
  have hr2 : r = 0 ∨ r = 1 := by omega
  rw [hu]
  rcases hr2 with rfl | rfl
  · have e1 : ((n : Int)).tmod 2 = 0 := e1
    simp only [push_cast, Nat.reduceBEq, Nat.reduceAdd, Nat.reduceEqDiff, reduceCtorEq, Nat.reduceLeDiff, Nat.reduceSub, Nat.reduceMul, Nat.reduceLT, Int.reduceEq, Int.reduceLT, Int.reduceLE, Int.reduceBEq, Int.reduceBNe, Int.reduceToNat, Int.reduceNeg, Int.reduceSub, Int.reduceAdd, e1, e2, e3, e4, show IntKind.u64.wrap 0 = 0 from rfl]
  · have e1 : ((n : Int)).tmod 2 = 1 := e1
    simp only [push_cast, Nat.reduceBEq, Nat.reduceAdd, Nat.reduceEqDiff, reduceCtorEq, Nat.reduceLeDiff, Nat.reduceSub, Nat.reduceMul, Nat.reduceLT, Int.reduceEq, Int.reduceLT, Int.reduceLE, Int.reduceBEq, Int.reduceBNe, Int.reduceToNat, Int.reduceNeg, Int.reduceSub, Int.reduceAdd, e1, e2, e3, e4, e5, e6, show IntKind.u64.wrap 1 = 1 from rfl]
theorem fold_h {z : Int} (h : -1 ≤ z) (h' : z < 4611686018427387904) : Hv.ACalls Try.prog 71 [.lit (.int .i64 z)] (.lit (.int .u64 (zig z : Int))) := by
  refine acallsC_of (rs := [.tmp 2]) ⟨[0, 2, 4], [], [], [], []⟩ TOk mixed Try.func71 rfl rfl (by kernel_rfl) (by kernel_rfl) rfl (nid1 (.lit _)) (.lit _) ?_
  by_cases h0 : z < 0
  · have hz : z = -1 := by omega
    subst hz
    simp only [push_cast, Nat.reduceBEq, Nat.reduceAdd, Nat.reduceEqDiff, reduceCtorEq, Nat.reduceLeDiff, Nat.reduceSub, Nat.reduceMul, Nat.reduceLT, Int.reduceEq, Int.reduceLT, Int.reduceLE, Int.reduceBEq, Int.reduceBNe, Int.reduceToNat, Int.reduceNeg, Int.reduceSub, Int.reduceAdd]
    rfl
  · have e1 : IntKind.u64.wrap z = z := by
      obtain ⟨k, rfl⟩ : ∃ k : Nat, z = (k : Int) := ⟨z.toNat, by omega⟩
      exact u64_nat (by omega)
    have e2 : IntKind.u64.wrap (2 * z) = (zig z : Int) := by
      obtain ⟨k, rfl⟩ : ∃ k : Nat, z = (k : Int) := ⟨z.toNat, by omega⟩
      rw [show (2 : Int) * (k : Int) = ((2 * k : Nat) : Int) by omega, u64_nat (by omega)]
      unfold zig
      rw [if_pos (by omega)]
      omega
    simp only [push_cast, Nat.reduceBEq, Nat.reduceAdd, Nat.reduceEqDiff, reduceCtorEq, Nat.reduceLeDiff, Nat.reduceSub, Nat.reduceMul, Nat.reduceLT, Int.reduceEq, Int.reduceLT, Int.reduceLE, Int.reduceBEq, Int.reduceBNe, Int.reduceToNat, Int.reduceNeg, Int.reduceSub, Int.reduceAdd, h0, e1, e2]
end Go.Proofs.Ytheanmfdfoefoaa
