/- An edit's bytes are taken off the front: numbers and texts of an input, the program's and the reference's, by the walk over a heap. -/
import Derived.Test.YtheanmfdfoefoaaEdPar
set_option linter.unusedVariables false
set_option linter.unusedSimpArgs false
namespace Go.Proofs.Ytheanmfdfoefoaa
open Go Go.RowKit Hv
set_option maxRecDepth 20000
set_option maxHeartbeats 4000000
/-- What a step of an input answers and leaves. -/
structure Nxt {α : Type} (o : Option (α × List UInt8)) (l : List UInt8) (bad : Bool) (z : α) (l' : List UInt8) (bad' : Bool) : Prop where
  yes : ∀ x r, bad = false → o = some (x, r) → z = x ∧ l' = r ∧ bad' = false
  no : bad = true ∨ o = none → bad' = true
  len : l'.length ≤ l.length
/-- An input's cells: the program's, the reference's. -/
def inC (l : List UInt8) (bad : Bool) : List AV := [.sl (byL l), .lit (.bool bad)]
def inR (l : List UInt8) (bad : Bool) : List AV := [.lit (.string (str l)), .lit (.bool bad)]
def pZ (l : List UInt8) : Option (Int × List UInt8) := (pN l).map fun x => ((x.1 : Int), x.2)
/-- What a call of an input does. -/
def InPost {α : Type} (C : List UInt8 → Bool → List AV) (val : α → AV) (o : Option (α × List UInt8)) (l : List UInt8) (bad : Bool) (p : Nat) (H : Hp) (n : Nat) (r : AV) (H' : Hp) (n' : Nat) : Prop :=
  ∃ (z : α) (l' : List UInt8) (bad' : Bool), r = val z ∧ n' = n ∧ H' p = some (.cells (C l' bad')) ∧ (∀ j, j ≠ p → H' j = H j) ∧ Nxt o l bad z l' bad'
theorem byL_drop (l : List UInt8) (k : Nat) : (byL l).drop k = byL (l.drop k) := List.map_drop.symm
theorem pN_none {l : List UInt8} (h : (getB l).2.2 ≠ 0 ∨ 4611686018427387904 < (getB l).1) : pZ l = none := by unfold pZ pN; rw [if_pos h]; rfl
theorem pN_some {l : List UInt8} (h : ¬ ((getB l).2.2 ≠ 0 ∨ 4611686018427387904 < (getB l).1)) : pZ l = some (((getB l).1 : Int), l.drop (getB l).2.1) := by unfold pZ pN; rw [if_neg h]; rfl
theorem nxt_none {α : Type} {o : Option (α × List UInt8)} {l : List UInt8} {bad : Bool} {z : α} {l' : List UInt8} (ho : bad = true ∨ o = none) (hl : l'.length ≤ l.length) : Nxt o l bad z l' true :=
  ⟨fun x r h1 h2 => by rcases ho with h | h; (rw [h] at h1; cases h1); (rw [h] at h2; cases h2), fun _ => rfl, hl⟩
theorem nxt_some {α : Type} {o : Option (α × List UInt8)} {l : List UInt8} {z : α} {l' : List UInt8} (ho : o = some (z, l')) (hl : l'.length ≤ l.length) : Nxt o l false z l' false :=
  ⟨fun x r _ h2 => by rw [ho] at h2; injection h2 with h2; injection h2 with h2 h3; exact ⟨h2, h3, rfl⟩, fun h => by rcases h with h | h; (cases h); (rw [ho] at h; cases h), hl⟩
def i64A (z : Int) : AV := .lit (.int .i64 z)
def strA (s : ByteArray) : AV := .lit (.string s)
theorem num_h {H : Hp} {n p : Nat} {l : List UInt8} {bad : Bool} (hp : H p = some (.cells (inC l bad))) : HCalls Try.prog 82 [.ptr p 0] H n (InPost inC i64A (pZ l) l bad p H n) := by
  refine hcallsC_of (rs := [.tmp 2]) ⟨[0, 2, 3, 4, 5], [], [], [], []⟩ TOk mixed Try.func82 rfl rfl (by kernel_rfl) (by kernel_rfl) rfl ?_
  have hk := getB_le l
  have hle : (l.drop (getB l).2.1).length ≤ l.length := by rw [List.length_drop]; omega
  simp only [push_cast, Nat.reduceBEq, Nat.reduceAdd, Nat.reduceEqDiff, reduceCtorEq, Nat.reduceLeDiff, Nat.reduceSub, Nat.reduceMul, Nat.reduceLT, Int.reduceEq, Int.reduceLT, Int.reduceLE, Int.reduceBEq, Int.reduceBNe, Int.reduceToNat, Int.reduceNeg, Int.reduceSub, Int.reduceAdd, hp, inC]
  refine callK (get_h l) ?_
  unfold getA
  have hkk : (getB l).2.1 ≤ (byL l).length := by rw [byL_len]; exact hk
  cases bad with
  | true =>
    simp (disch := omega) only [push_cast, Hv.neB, Nat.reduceBEq, Nat.reduceAdd, Nat.reduceEqDiff, reduceCtorEq, Nat.reduceLeDiff, Nat.reduceSub, Nat.reduceMul, Nat.reduceLT, Int.reduceEq, Int.reduceLT, Int.reduceLE, Int.reduceBEq, Int.reduceBNe, Int.reduceToNat, Int.reduceNeg, Int.reduceSub, Int.reduceAdd, hp, inC, byL_drop, byL_one, List.take_length, hkk]
    exact ⟨_, _, _, rfl, rfl, upd_same _ _ _, fun j hj => by rw [upd_other (Ne.symm hj), upd_other (Ne.symm hj)], nxt_none (.inl rfl) hle⟩
  | false =>
    by_cases h1 : (getB l).2.2 = 0
    · have h1' : ((getB l).2.2 != 0) = false := by rw [h1]; rfl
      by_cases h2 : 4611686018427387904 < (getB l).1
      · have h2' : ((getB l).1 : Int) > 4611686018427387904 := by omega
        simp (disch := omega) only [push_cast, Hv.neB, Nat.reduceBEq, Nat.reduceAdd, Nat.reduceEqDiff, reduceCtorEq, Nat.reduceLeDiff, Nat.reduceSub, Nat.reduceMul, Nat.reduceLT, Int.reduceEq, Int.reduceLT, Int.reduceLE, Int.reduceBEq, Int.reduceBNe, Int.reduceToNat, Int.reduceNeg, Int.reduceSub, Int.reduceAdd, hp, inC, byL_drop, byL_one, List.take_length, hkk, h1', h2']
        exact ⟨_, _, _, rfl, rfl, upd_same _ _ _, fun j hj => by rw [upd_other (Ne.symm hj), upd_other (Ne.symm hj)], nxt_none (.inr (pN_none (.inr h2))) hle⟩
      · have h2' : ¬ ((getB l).1 : Int) > 4611686018427387904 := by omega
        have hw : IntKind.i64.wrap ((getB l).1 : Int) = ((getB l).1 : Int) := IntWalk.i64_in _ (by omega)
        simp (disch := omega) only [push_cast, Hv.neB, Nat.reduceBEq, Nat.reduceAdd, Nat.reduceEqDiff, reduceCtorEq, Nat.reduceLeDiff, Nat.reduceSub, Nat.reduceMul, Nat.reduceLT, Int.reduceEq, Int.reduceLT, Int.reduceLE, Int.reduceBEq, Int.reduceBNe, Int.reduceToNat, Int.reduceNeg, Int.reduceSub, Int.reduceAdd, hp, inC, byL_drop, byL_one, List.take_length, hkk, h1', h2', hw]
        exact ⟨_, _, _, rfl, rfl, upd_same _ _ _, fun j hj => by rw [upd_other (Ne.symm hj), upd_other (Ne.symm hj)], nxt_some (pN_some (by simp only [h1]; omega)) hle⟩
    · have h1' : ((getB l).2.2 != 0) = true := by simpa using h1
      simp (disch := omega) only [push_cast, Hv.neB, Nat.reduceBEq, Nat.reduceAdd, Nat.reduceEqDiff, reduceCtorEq, Nat.reduceLeDiff, Nat.reduceSub, Nat.reduceMul, Nat.reduceLT, Int.reduceEq, Int.reduceLT, Int.reduceLE, Int.reduceBEq, Int.reduceBNe, Int.reduceToNat, Int.reduceNeg, Int.reduceSub, Int.reduceAdd, hp, inC, byL_drop, byL_one, List.take_length, hkk, h1']
      exact ⟨_, _, _, rfl, rfl, upd_same _ _ _, fun j hj => by rw [upd_other (Ne.symm hj), upd_other (Ne.symm hj)], nxt_none (.inr (pN_none (.inl h1))) hle⟩
theorem signed_h {H : Hp} {n p : Nat} {l : List UInt8} {bad : Bool} (hp : H p = some (.cells (inC l bad))) : HCalls Try.prog 81 [.ptr p 0] H n (InPost inC i64A (pS l) l bad p H n) := by
  refine hcallsC_of (rs := [.tmp 2]) ⟨[0, 2, 3, 4, 5], [], [], [], []⟩ TOk mixed Try.func81 rfl rfl (by kernel_rfl) (by kernel_rfl) rfl ?_
  have hk := getB_le l
  have hle : (l.drop (getB l).2.1).length ≤ l.length := by rw [List.length_drop]; omega
  simp only [push_cast, Nat.reduceBEq, Nat.reduceAdd, Nat.reduceEqDiff, reduceCtorEq, Nat.reduceLeDiff, Nat.reduceSub, Nat.reduceMul, Nat.reduceLT, Int.reduceEq, Int.reduceLT, Int.reduceLE, Int.reduceBEq, Int.reduceBNe, Int.reduceToNat, Int.reduceNeg, Int.reduceSub, Int.reduceAdd, hp, inC]
  refine callK (getSigned_h l) ?_
  have hkk : (getB l).2.1 ≤ (byL l).length := by rw [byL_len]; exact hk
  have pno : (getB l).2.2 ≠ 0 → pS l = none := fun h => by unfold pS; rw [if_pos h]
  have pye : (getB l).2.2 = 0 → pS l = some (unz (getB l).1, l.drop (getB l).2.1) := fun h => by unfold pS; rw [if_neg (by simpa using h)]
  cases bad with
  | true =>
    simp (disch := omega) only [push_cast, Hv.neB, Nat.reduceBEq, Nat.reduceAdd, Nat.reduceEqDiff, reduceCtorEq, Nat.reduceLeDiff, Nat.reduceSub, Nat.reduceMul, Nat.reduceLT, Int.reduceEq, Int.reduceLT, Int.reduceLE, Int.reduceBEq, Int.reduceBNe, Int.reduceToNat, Int.reduceNeg, Int.reduceSub, Int.reduceAdd, hp, inC, byL_drop, byL_one, List.take_length, hkk]
    exact ⟨_, _, _, rfl, rfl, upd_same _ _ _, fun j hj => by rw [upd_other (Ne.symm hj), upd_other (Ne.symm hj)], nxt_none (.inl rfl) hle⟩
  | false =>
    by_cases h1 : (getB l).2.2 = 0
    · have h1' : ((getB l).2.2 != 0) = false := by rw [h1]; rfl
      simp (disch := omega) only [push_cast, Hv.neB, Nat.reduceBEq, Nat.reduceAdd, Nat.reduceEqDiff, reduceCtorEq, Nat.reduceLeDiff, Nat.reduceSub, Nat.reduceMul, Nat.reduceLT, Int.reduceEq, Int.reduceLT, Int.reduceLE, Int.reduceBEq, Int.reduceBNe, Int.reduceToNat, Int.reduceNeg, Int.reduceSub, Int.reduceAdd, hp, inC, byL_drop, byL_one, List.take_length, hkk, h1']
      exact ⟨_, _, _, rfl, rfl, upd_same _ _ _, fun j hj => by rw [upd_other (Ne.symm hj), upd_other (Ne.symm hj)], nxt_some (pye h1) hle⟩
    · have h1' : ((getB l).2.2 != 0) = true := by simpa using h1
      simp (disch := omega) only [push_cast, Hv.neB, Nat.reduceBEq, Nat.reduceAdd, Nat.reduceEqDiff, reduceCtorEq, Nat.reduceLeDiff, Nat.reduceSub, Nat.reduceMul, Nat.reduceLT, Int.reduceEq, Int.reduceLT, Int.reduceLE, Int.reduceBEq, Int.reduceBNe, Int.reduceToNat, Int.reduceNeg, Int.reduceSub, Int.reduceAdd, hp, inC, byL_drop, byL_one, List.take_length, hkk, h1']
      exact ⟨_, _, _, rfl, rfl, upd_same _ _ _, fun j hj => by rw [upd_other (Ne.symm hj), upd_other (Ne.symm hj)], nxt_none (.inr (pno h1)) hle⟩
theorem text_h {H : Hp} {n p : Nat} {l : List UInt8} {bad : Bool} (hp : H p = some (.cells (inC l bad))) : HCalls Try.prog 83 [.ptr p 0] H n (InPost inC strA (pT l) l bad p H n) := by
  refine hcallsC_of (rs := [.tmp 2]) ⟨[0, 2, 3, 4, 5], [], [], [], []⟩ TOk mixed Try.func83 rfl rfl (by kernel_rfl) (by kernel_rfl) rfl ?_
  have hk := textG_le l 64
  have hle : (l.drop (textG l 64).2.1).length ≤ l.length := by rw [List.length_drop]; omega
  simp only [push_cast, Nat.reduceBEq, Nat.reduceAdd, Nat.reduceEqDiff, reduceCtorEq, Nat.reduceLeDiff, Nat.reduceSub, Nat.reduceMul, Nat.reduceLT, Int.reduceEq, Int.reduceLT, Int.reduceLE, Int.reduceBEq, Int.reduceBNe, Int.reduceToNat, Int.reduceNeg, Int.reduceSub, Int.reduceAdd, hp, inC]
  refine callK (getText_h l 64 (by decide)) ?_
  have hkk : (textG l 64).2.1 ≤ (byL l).length := by rw [byL_len]; exact hk
  have pno : (textG l 64).2.2 ≠ 0 → pT l = none := fun h => by unfold pT; rw [if_pos h]
  have pye : (textG l 64).2.2 = 0 → pT l = some (⟨(textG l 64).1.toArray⟩, l.drop (textG l 64).2.1) := fun h => by unfold pT; rw [if_neg (by simpa using h)]
  cases bad with
  | true =>
    simp (disch := omega) only [push_cast, Hv.neB, Nat.reduceBEq, Nat.reduceAdd, Nat.reduceEqDiff, reduceCtorEq, Nat.reduceLeDiff, Nat.reduceSub, Nat.reduceMul, Nat.reduceLT, Int.reduceEq, Int.reduceLT, Int.reduceLE, Int.reduceBEq, Int.reduceBNe, Int.reduceToNat, Int.reduceNeg, Int.reduceSub, Int.reduceAdd, hp, inC, byL_drop, byL_one, List.take_length, hkk]
    exact ⟨_, _, _, rfl, rfl, upd_same _ _ _, fun j hj => by rw [upd_other (Ne.symm hj), upd_other (Ne.symm hj)], nxt_none (.inl rfl) hle⟩
  | false =>
    by_cases h1 : (textG l 64).2.2 = 0
    · have h1' : ((textG l 64).2.2 != 0) = false := by rw [h1]; rfl
      simp (disch := omega) only [push_cast, Hv.neB, Nat.reduceBEq, Nat.reduceAdd, Nat.reduceEqDiff, reduceCtorEq, Nat.reduceLeDiff, Nat.reduceSub, Nat.reduceMul, Nat.reduceLT, Int.reduceEq, Int.reduceLT, Int.reduceLE, Int.reduceBEq, Int.reduceBNe, Int.reduceToNat, Int.reduceNeg, Int.reduceSub, Int.reduceAdd, hp, inC, byL_drop, byL_one, List.take_length, hkk, h1']
      exact ⟨_, _, _, rfl, rfl, upd_same _ _ _, fun j hj => by rw [upd_other (Ne.symm hj), upd_other (Ne.symm hj)], nxt_some (pye h1) hle⟩
    · have h1' : ((textG l 64).2.2 != 0) = true := by simpa using h1
      simp (disch := omega) only [push_cast, Hv.neB, Nat.reduceBEq, Nat.reduceAdd, Nat.reduceEqDiff, reduceCtorEq, Nat.reduceLeDiff, Nat.reduceSub, Nat.reduceMul, Nat.reduceLT, Int.reduceEq, Int.reduceLT, Int.reduceLE, Int.reduceBEq, Int.reduceBNe, Int.reduceToNat, Int.reduceNeg, Int.reduceSub, Int.reduceAdd, hp, inC, byL_drop, byL_one, List.take_length, hkk, h1']
      exact ⟨_, _, _, rfl, rfl, upd_same _ _ _, fun j hj => by rw [upd_other (Ne.symm hj), upd_other (Ne.symm hj)], nxt_none (.inr (pno h1)) hle⟩
/-! ### the reference's -/
theorem str_rest (l : List UInt8) (k : Nat) : (str l).extract k (str l).size = str (l.drop k) := by
  rw [str_cut, str_size, List.take_of_length_le (by simp)]
def natA (z : Nat) : AV := .lit (.int .i64 (z : Int))
def RnPost (l : List UInt8) (bad : Bool) (p : Nat) (H : Hp) (n : Nat) (r : AV) (H' : Hp) (n' : Nat) : Prop :=
  ∃ (z : Nat) (l' : List UInt8) (bad' : Bool), z ≤ 4611686018427387904 ∧ r = natA z ∧ n' = n ∧ H' p = some (.cells (inR l' bad')) ∧ (∀ j, j ≠ p → H' j = H j) ∧ Nxt (pN l) l bad z l' bad'
theorem rnumI_h {H : Hp} {n p : Nat} {l : List UInt8} {bad : Bool} (hl : l.length ≤ 1000000) (hp : H p = some (.cells (inR l bad))) : HCalls Try.prog 78 [.ptr p 0] H n (RnPost l bad p H n) := by
  refine hcallsC_of (rs := [.tmp 2]) ⟨[0, 2, 3, 4, 5, 20], [], [], [], []⟩ TOk mixed Try.func78 rfl rfl (by kernel_rfl) (by kernel_rfl) rfl ?_
  have hk := getB_le l
  have hle : (l.drop (getB l).2.1).length ≤ l.length := by rw [List.length_drop]; omega
  simp only [push_cast, Nat.reduceBEq, Nat.reduceAdd, Nat.reduceEqDiff, reduceCtorEq, Nat.reduceLeDiff, Nat.reduceSub, Nat.reduceMul, Nat.reduceLT, Int.reduceEq, Int.reduceLT, Int.reduceLE, Int.reduceBEq, Int.reduceBNe, Int.reduceToNat, Int.reduceNeg, Int.reduceSub, Int.reduceAdd, hp, inR]
  refine callK (rget_h l (by omega)) ?_
  unfold getA
  have hkk : (getB l).2.1 ≤ (str l).size := by rw [str_size]; exact hk
  by_cases h1 : (getB l).2.2 = 0
  · have h1' : ((getB l).2.2 != 0) = false := by rw [h1]; rfl
    by_cases h2 : 4611686018427387904 < (getB l).1
    · have h2' : ((getB l).1 : Int) > 4611686018427387904 := by omega
      simp (disch := omega) only [push_cast, Hv.neB, Nat.reduceBEq, Nat.reduceAdd, Nat.reduceEqDiff, reduceCtorEq, Nat.reduceLeDiff, Nat.reduceSub, Nat.reduceMul, Nat.reduceLT, Int.reduceEq, Int.reduceLT, Int.reduceLE, Int.reduceBEq, Int.reduceBNe, Int.reduceToNat, Int.reduceNeg, Int.reduceSub, Int.reduceAdd, hp, inR, str_rest, hkk, h1', h2']
      exact ⟨0, _, _, by omega, rfl, rfl, upd_same _ _ _, fun j hj => by rw [upd_other (Ne.symm hj)], nxt_none (.inr (by unfold pN; rw [if_pos (.inr h2)])) (Nat.le_refl _)⟩
    · have h2' : ¬ ((getB l).1 : Int) > 4611686018427387904 := by omega
      have hw : IntKind.i64.wrap ((getB l).1 : Int) = ((getB l).1 : Int) := IntWalk.i64_in _ (by omega)
      have hs : pN l = some ((getB l).1, l.drop (getB l).2.1) := by unfold pN; rw [if_neg (by simp only [h1]; omega)]
      simp (disch := omega) only [push_cast, Hv.neB, Nat.reduceBEq, Nat.reduceAdd, Nat.reduceEqDiff, reduceCtorEq, Nat.reduceLeDiff, Nat.reduceSub, Nat.reduceMul, Nat.reduceLT, Int.reduceEq, Int.reduceLT, Int.reduceLE, Int.reduceBEq, Int.reduceBNe, Int.reduceToNat, Int.reduceNeg, Int.reduceSub, Int.reduceAdd, hp, inR, str_rest, hkk, h1', h2', hw]
      refine ⟨_, l.drop (getB l).2.1, bad, by omega, rfl, rfl, upd_same _ _ _, fun j hj => by rw [upd_other (Ne.symm hj)], ?_⟩
      cases bad with
      | true => exact nxt_none (.inl rfl) hle
      | false => exact nxt_some hs hle
  · have h1' : ((getB l).2.2 != 0) = true := by simpa using h1
    simp (disch := omega) only [push_cast, Hv.neB, Nat.reduceBEq, Nat.reduceAdd, Nat.reduceEqDiff, reduceCtorEq, Nat.reduceLeDiff, Nat.reduceSub, Nat.reduceMul, Nat.reduceLT, Int.reduceEq, Int.reduceLT, Int.reduceLE, Int.reduceBEq, Int.reduceBNe, Int.reduceToNat, Int.reduceNeg, Int.reduceSub, Int.reduceAdd, hp, inR, str_rest, hkk, h1']
    exact ⟨0, _, _, by omega, rfl, rfl, upd_same _ _ _, fun j hj => by rw [upd_other (Ne.symm hj)], nxt_none (.inr (by unfold pN; rw [if_pos (.inl h1)])) (Nat.le_refl _)⟩
theorem rtextI_h {H : Hp} {n p : Nat} {l : List UInt8} {bad : Bool} (hl : l.length ≤ 1000000) (hp : H p = some (.cells (inR l bad))) : HCalls Try.prog 80 [.ptr p 0] H n (InPost inR strA (pT l) l bad p H n) := by
  refine hcallsC_of (rs := [.tmp 2]) ⟨[0, 2, 3, 4, 5, 16], [], [], [], []⟩ TOk mixed Try.func80 rfl rfl (by kernel_rfl) (by kernel_rfl) rfl ?_
  have hk := textG_le l 64
  have hle : (l.drop (textG l 64).2.1).length ≤ l.length := by rw [List.length_drop]; omega
  simp only [push_cast, Nat.reduceBEq, Nat.reduceAdd, Nat.reduceEqDiff, reduceCtorEq, Nat.reduceLeDiff, Nat.reduceSub, Nat.reduceMul, Nat.reduceLT, Int.reduceEq, Int.reduceLT, Int.reduceLE, Int.reduceBEq, Int.reduceBNe, Int.reduceToNat, Int.reduceNeg, Int.reduceSub, Int.reduceAdd, hp, inR]
  refine callK (rgetText_h l (by omega) 64 (by decide)) ?_
  have hkk : (textG l 64).2.1 ≤ (str l).size := by rw [str_size]; exact hk
  by_cases h1 : (textG l 64).2.2 = 0
  · have h1' : ((textG l 64).2.2 != 0) = false := by rw [h1]; rfl
    have hs : pT l = some (⟨(textG l 64).1.toArray⟩, l.drop (textG l 64).2.1) := by unfold pT; rw [if_neg (by simpa using h1)]
    simp (disch := omega) only [push_cast, Hv.neB, Nat.reduceBEq, Nat.reduceAdd, Nat.reduceEqDiff, reduceCtorEq, Nat.reduceLeDiff, Nat.reduceSub, Nat.reduceMul, Nat.reduceLT, Int.reduceEq, Int.reduceLT, Int.reduceLE, Int.reduceBEq, Int.reduceBNe, Int.reduceToNat, Int.reduceNeg, Int.reduceSub, Int.reduceAdd, hp, inR, str_rest, hkk, h1']
    refine ⟨_, l.drop (textG l 64).2.1, bad, rfl, rfl, upd_same _ _ _, fun j hj => by rw [upd_other (Ne.symm hj)], ?_⟩
    cases bad with
    | true => exact nxt_none (.inl rfl) hle
    | false => exact nxt_some hs hle
  · have h1' : ((textG l 64).2.2 != 0) = true := by simpa using h1
    simp (disch := omega) only [push_cast, Hv.neB, Nat.reduceBEq, Nat.reduceAdd, Nat.reduceEqDiff, reduceCtorEq, Nat.reduceLeDiff, Nat.reduceSub, Nat.reduceMul, Nat.reduceLT, Int.reduceEq, Int.reduceLT, Int.reduceLE, Int.reduceBEq, Int.reduceBNe, Int.reduceToNat, Int.reduceNeg, Int.reduceSub, Int.reduceAdd, hp, inR, str_rest, hkk, h1']
    exact ⟨_, _, _, rfl, rfl, upd_same _ _ _, fun j hj => by rw [upd_other (Ne.symm hj)], nxt_none (.inr (by unfold pT; rw [if_pos h1])) (Nat.le_refl _)⟩
end Go.Proofs.Ytheanmfdfoefoaa
