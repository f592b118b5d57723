/- Edit: the bytes of an edit, by the walk over a heap. -/
import Derived.Test.YtheanmfdfoefoaaVarH
import Derived.Test.YtheanmfdfoefoaaEdA
import Derived.Test.YtheanmfdfoefoaaEdLaw
set_option linter.unusedVariables false
namespace Go.Proofs.Ytheanmfdfoefoaa
open Go Go.RowKit Hv
set_option linter.unusedSimpArgs false

def rid : AV → Option Nat | .rw id _ _ _ => some id | _ => none
def natH (n : Nat) : List AV := [.lit (.int .i64 (n : Int))]
theorem flat_len (ns : List Nat) : (ns.flatMap putB).length ≤ ns.length * 11 := by
  induction ns with
  | nil => simp
  | cons n ns ih =>
    rw [List.flatMap_cons, List.length_append, List.length_cons]
    have := putB_length n
    omega
theorem bis_ne {H : Hp} {lo hi : Nat} {c : AV} {l : List UInt8} (h : BIs H lo hi c l) {j : Nat} {cs : List AV} (hj : H j = some (.cells cs)) : rid c ≠ some j := fun e => by
  rcases h with ⟨rfl, _⟩ | ⟨id, rfl, h1, _, _⟩
  · cases e
  · injection e with e
    subst e
    rw [hj] at h1; cases h1
theorem bis_ne_int {H : Hp} {lo hi : Nat} {c : AV} {l : List UInt8} (h : BIs H lo hi c l) {j : Nat} {m : Bool} {its : List (List AV)} (hj : H j = some (.row m 3 its)) : rid c ≠ some j := fun e => by
  rcases h with ⟨rfl, _⟩ | ⟨id, rfl, h1, _, _⟩
  · cases e
  · injection e with e
    subst e
    rw [hj] at h1
    injection h1 with h1
    injection h1 with _ h1 _
    exact absurd h1 (by decide)
theorem byL_one (l : List UInt8) : (∀ it ∈ byL l, it.length = 1) = True := eq_true fun it hit => by
  obtain ⟨u, _, rfl⟩ := List.mem_map.1 hit; rfl
/-- A row of bytes of its own. -/
def OwnB (H : Hp) (n : Nat) (bs : List UInt8) (r : AV) (H' : Hp) (n' : Nat) : Prop :=
  ∃ id, r = .rw id 1 0 bs.length ∧ n ≤ id ∧ id < n' ∧ H' id = some (.row false 5 (byL bs)) ∧ ∀ j, j < n → H' j = H j
set_option maxRecDepth 20000 in
set_option maxHeartbeats 4000000 in
theorem put_hc {H : Hp} {n0 : Nat} (n : Nat) (hn : n < U64) : HCalls Try.prog 75 [.lit (.int .u64 (n : Int))] H n0 (OwnB H n0 (putB n)) := by
  refine hcallsC_of (rs := [.tmp 2]) ⟨[0, 2, 3, 5], [], [], [], [], []⟩ TOk mixed Try.func75 rfl rfl (by kernel_rfl) (by kernel_rfl) rfl ?_
  simp only [push_cast, Nat.reduceBEq, Nat.reduceAdd, Nat.reduceEqDiff, reduceCtorEq, Nat.reduceLeDiff, Nat.reduceSub, Nat.reduceMul, Nat.reduceLT, Int.reduceEq, Int.reduceLT, Int.reduceLE, Int.reduceBEq, Int.reduceBNe, Int.reduceToNat, Int.reduceNeg, Int.reduceSub, Int.reduceAdd, nbq0_1 n0, nbq1_0 n0]
  refine loopK (fun m s => ∃ (q id nx : Nat) (l : List UInt8) (H1 : Hp), q < U64 ∧ l ++ putB q = putB n ∧ n0 ≤ id ∧ id < nx ∧ H1 id = some (.row false 5 (byL l)) ∧ (∀ j, j < n0 → H1 j = H j) ∧ m = q ∧ s = ⟨[(0, .lit (.int .u64 (q : Int))), (3, .rw id 1 0 l.length)], H1, nx⟩) _ [0, 3] ⟨n, n0 + 1, n0 + 1 + 1, [], _, hn, rfl, by omega, by omega, upd_same _ _ _, fun j hj => by rw [upd_other (by omega), upd_other (by omega)], rfl, rfl⟩ ?_
  rintro m _ ⟨q, id, nx, l, H1, hq, hl, hn0, hid, hrow, hfr, hmq, rfl⟩
  have hlen : l.length ≤ 11 := by
    have := putB_length n
    rw [← hl, List.length_append] at this
    omega
  have hb : l.length ≤ 140737488355327 := by omega
  have hne : (nx == id) = false := by rw [← Bool.not_eq_true, beq_iff_eq]; omega
  by_cases h : (128 : Int) ≤ (q : Int)
  · have hs := shr7 q
    have h127 : ¬ (7 : Int) < 0 := by omega
    have hbig := putB_big q (by omega) hq
    simp only [push_cast, Nat.reduceBEq, Nat.reduceAdd, Nat.reduceEqDiff, reduceCtorEq, Nat.reduceLeDiff, Nat.reduceSub, Nat.reduceMul, Nat.reduceLT, Int.reduceEq, Int.reduceLT, Int.reduceLE, Int.reduceBEq, Int.reduceBNe, Int.reduceToNat, Int.reduceNeg, Int.reduceSub, Int.reduceAdd, h, ge_iff_le, hrow, hb, hne, byL_len, or_byte, h127, hs, nbq1_0 nx]
    refine ⟨q / 128, by omega, q / 128, nx + 1, nx + 1 + 1, l ++ [UInt8.ofNat (q % 128 + 128)], _, by omega, ?_, by omega, by omega, ?_, fun j hj => ?_, rfl, by rw [List.length_append]; rfl⟩
    · rw [List.append_assoc, List.singleton_append, ← hbig, hl]
    · rw [byL_append]; exact upd_same _ _ _
    · rw [upd_other (by omega), upd_other (by omega), upd_other (by omega)]; exact hfr j hj
  · have hsm := putB_small q (by omega)
    have hlow := low_byte q
    have hfull : byL l ++ [[AV.lit (.int .u8 ((UInt8.ofNat q).toNat : Int))]] = byL (putB n) := by rw [← hl, hsm, byL_append]; rfl
    have hln : l.length + 1 = (putB n).length := by rw [← hl, hsm, List.length_append]; rfl
    simp only [push_cast, Nat.reduceBEq, Nat.reduceAdd, Nat.reduceEqDiff, reduceCtorEq, Nat.reduceLeDiff, Nat.reduceSub, Nat.reduceMul, Nat.reduceLT, Int.reduceEq, Int.reduceLT, Int.reduceLE, Int.reduceBEq, Int.reduceBNe, Int.reduceToNat, Int.reduceNeg, Int.reduceSub, Int.reduceAdd, h, ge_iff_le, hrow, hb, hne, byL_len, hlow, nbq1_0 nx]
    rw [hfull, hln]
    exact ⟨nx + 1, rfl, by omega, by omega, upd_same _ _ _, fun j hj => by rw [upd_other (by omega), upd_other (by omega), upd_other (by omega)]; exact hfr j hj⟩
theorem byL_str (s : ByteArray) : bytesA s = byL s.data.toList := rfl
set_option maxRecDepth 20000 in
set_option maxHeartbeats 4000000 in
theorem putText_h (s : ByteArray) (hs : s.size ≤ 1000000000) : Hv.ACalls Try.prog 77 [.lit (.string s)] (.sl (byL (textB s))) := by
  refine acallsC_of (rs := [.tmp 2]) ⟨[0, 2], [], [], [], [], []⟩ TOk mixed Try.func77 rfl rfl (by kernel_rfl) (by kernel_rfl) rfl (by simp [noId_lit]) (noId_by _) ?_
  have hu := u64_nat (n := s.size) (by omega)
  simp only [push_cast, Nat.reduceBEq, Nat.reduceAdd, Nat.reduceEqDiff, reduceCtorEq, Nat.reduceLeDiff, Nat.reduceSub, Nat.reduceMul, Nat.reduceLT, Int.reduceEq, Int.reduceLT, Int.reduceLE, Int.reduceBEq, Int.reduceBNe, Int.reduceToNat, Int.reduceNeg, Int.reduceSub, Int.reduceAdd, hu]
  refine callH (put_hc s.size (by unfold U64; omega)) ?_
  rintro _ H' n' ⟨id, rfl, h1, h2, h3, h4⟩
  have hpl := putB_length s.size
  have hsl : s.data.toList.length = s.size := by rw [Array.length_toList]; rfl
  have hb : (putB s.size).length + s.data.toList.length ≤ 140737488355328 := by omega
  have ht : byL (putB s.size) ++ byL s.data.toList = byL (textB s) := by unfold textB; rw [byL_append]
  have hl : (putB s.size).length + s.data.toList.length = (byL (textB s)).length := by rw [← ht, List.length_append, byL_len, byL_len]
  simp only [push_cast, Nat.reduceBEq, Nat.reduceAdd, Nat.reduceEqDiff, reduceCtorEq, Nat.reduceLeDiff, Nat.reduceSub, Nat.reduceMul, Nat.reduceLT, Int.reduceEq, Int.reduceLT, Int.reduceLE, Int.reduceBEq, Int.reduceBNe, Int.reduceToNat, Int.reduceNeg, Int.reduceSub, Int.reduceAdd, h3, byL_str, byL_one, byL_len, hb]
  rw [ht, hl, ble_self, List.take_length]; rfl
def EncPost (H : Hp) (n b lo : Nat) (c : AV) (bs : List UInt8) (r : AV) (H' : Hp) (n' : Nat) : Prop :=
  r = .tup [] ∧ n ≤ n' ∧ (∀ j, j < n → j ≠ b → rid c ≠ some j → H' j = H j) ∧ ∃ c', H' b = some (.cells [c']) ∧ BIs H' lo n' c' bs
set_option maxRecDepth 20000 in
set_option maxHeartbeats 8000000 in
theorem encPut_h {H : Hp} {n b sid lo : Nat} {c : AV} {bs : List UInt8} {ns : List Nat} (hbn : b < n) (hsn : sid < n) (hlo : lo ≤ n) (hb : H b = some (.cells [c])) (hB : BIs H lo n c bs) (hs : H sid = some (.row false 3 (ns.map natH))) (hns : ∀ k ∈ ns, k < 9223372036854775808) (hbs : bs.length ≤ 1000000000000) (hnl : ns.length ≤ 1000000) :
    HCalls Try.prog 74 [.rw sid 1 0 ns.length, .ptr b 0] H n (EncPost H n b lo c (bs ++ ns.flatMap putB)) := by
  have hbsid : b ≠ sid := fun e => by subst e; rw [hb] at hs; cases hs
  refine hcallsC_of (rs := []) ⟨[0, 1, 4, 5, 6, 7, 8], [], [], [(3, [(0, [], []), (1, [], []), (2, [], []), (3, [0], [2, 1]), (4, [], [0, 3, 2, 1]), (5, [], [4, 0, 1, 2, 3])])], [], []⟩ TOk mixed Try.func74 rfl rfl (by kernel_rfl) (by kernel_rfl) rfl ?_
  simp only [push_cast, Nat.reduceBEq, Nat.reduceAdd, Nat.reduceEqDiff, reduceCtorEq, Nat.reduceLeDiff, Nat.reduceSub, Nat.reduceMul, Nat.reduceLT, Int.reduceEq, Int.reduceLT, Int.reduceLE, Int.reduceBEq, Int.reduceBNe, Int.reduceToNat, Int.reduceNeg, Int.reduceSub, Int.reduceAdd]
  refine loopK (fun m s => ∃ (k nx : Nat) (c1 : AV) (H1 : Hp), k ≤ ns.length ∧ n ≤ nx ∧ H1 b = some (.cells [c1]) ∧ BIs H1 lo nx c1 (bs ++ (ns.take k).flatMap putB) ∧ H1 sid = some (.row false 3 (ns.map natH)) ∧ (∀ j, j < n → j ≠ b → rid c ≠ some j → H1 j = H j) ∧ (rid c1 = rid c ∨ ∀ j, rid c1 = some j → n ≤ j) ∧ m = ns.length - k ∧
    s = ⟨[(1, .ptr b 0), (5, .rw sid 1 0 ns.length), (6, .lit (.int .i64 (ns.length : Int))), (7, .lit (.int .i64 (k : Int)))], H1, nx⟩) _ [1, 5, 6, 7] ⟨0, n, c, H, Nat.zero_le _, Nat.le_refl _, hb, by simpa using hB, hs, fun _ _ _ _ => rfl, .inl rfl, rfl, rfl⟩ ?_
  clear hB hb hs
  rintro m _ ⟨k, nx, c1, H1, hk, hnx, hb, hB, hs, hfr, hc1, rfl, rfl⟩
  by_cases h : k < ns.length
  · obtain ⟨x, hx⟩ : ∃ x, ns[k]? = some x := ⟨_, List.getElem?_eq_getElem h⟩
    have hx64 := u64_nat (n := x) (by have := hns x (List.mem_of_getElem? hx); omega)
    have hw := wrap_nat (k := k) (by omega)
    have hlen : (bs ++ (ns.take k).flatMap putB).length ≤ 2000000000000 := by
      have := flat_len (ns.take k)
      rw [List.length_append]
      rw [List.length_take] at this
      omega
    have hpl := putB_length x
    have hnext : bs ++ (ns.take (k + 1)).flatMap putB = (bs ++ (ns.take k).flatMap putB) ++ putB x := by
      rw [List.take_add_one, hx, List.flatMap_append, List.append_assoc]; simp
    have hne1 := bis_ne_int hB hs
    have hne2 := bis_ne hB hb
    generalize bs ++ (ns.take k).flatMap putB = l at hB hlen hnext
    have hone : (∀ it ∈ byL (putB x), it.length = 1) = True := eq_true fun it hit => by
      obtain ⟨u, _, rfl⟩ := List.mem_map.1 hit; rfl
    have hsz : (putB x).length ≤ 140737488355328 := by omega
    have hput := put_h x (by have := hns x (List.mem_of_getElem? hx); unfold U64; omega)
    have m1 : (nx == b) = false := by rw [← Bool.not_eq_true, beq_iff_eq]; omega
    rcases hB with ⟨rfl, rfl⟩ | ⟨id, rfl, hrow, hid1, hid2⟩
    · simp only [push_cast, Nat.reduceBEq, Nat.reduceAdd, Nat.reduceEqDiff, reduceCtorEq, Nat.reduceLeDiff, Nat.reduceSub, Nat.reduceMul, Nat.reduceLT, Int.reduceEq, Int.reduceLT, Int.reduceLE, Int.reduceBEq, Int.reduceBNe, Int.reduceToNat, Int.reduceNeg, Int.reduceSub, Int.reduceAdd, h, hs, hx, natH, hb, hx64]
      refine callD hput ?_
      simp only [push_cast, Nat.reduceBEq, Nat.reduceAdd, Nat.reduceEqDiff, reduceCtorEq, Nat.reduceLeDiff, Nat.reduceSub, Nat.reduceMul, Nat.reduceLT, Int.reduceEq, Int.reduceLT, Int.reduceLE, Int.reduceBEq, Int.reduceBNe, Int.reduceToNat, Int.reduceNeg, Int.reduceSub, Int.reduceAdd, hb, hone, byL_len, hsz, m1, hw]
      refine ⟨_, by omega, k + 1, nx + 1, .rw nx 1 0 (putB x).length, _, by omega, by omega, upd_same _ _ _, .inr ⟨nx, ?_, ?_, by omega, by omega⟩, ?_, fun j h1 h2 h3 => ?_, .inr fun j hj => ?_, rfl, rfl⟩
      · rw [hnext]; rfl
      · rw [upd_other (by omega), upd_same, hnext]; rfl
      · rw [upd_other (by omega), upd_other (by omega)]; exact hs
      · rw [upd_other (by omega), upd_other (by omega)]; exact hfr j h1 h2 h3
      · injection hj with hj; omega
    · have hidb : id ≠ b := fun e => hne2 (by rw [e]; rfl)
      have hids : id ≠ sid := fun e => hne1 (by rw [e]; rfl)
      have hsz2 : l.length + (putB x).length ≤ 140737488355328 := by omega
      have m2 : (id == b) = false := by rw [← Bool.not_eq_true, beq_iff_eq]; exact hidb
      have m3 : (nx == id) = false := by rw [← Bool.not_eq_true, beq_iff_eq]; omega
      simp only [push_cast, Nat.reduceBEq, Nat.reduceAdd, Nat.reduceEqDiff, reduceCtorEq, Nat.reduceLeDiff, Nat.reduceSub, Nat.reduceMul, Nat.reduceLT, Int.reduceEq, Int.reduceLT, Int.reduceLE, Int.reduceBEq, Int.reduceBNe, Int.reduceToNat, Int.reduceNeg, Int.reduceSub, Int.reduceAdd, h, hs, hx, natH, hb, hx64]
      refine callD hput ?_
      simp only [push_cast, Nat.reduceBEq, Nat.reduceAdd, Nat.reduceEqDiff, reduceCtorEq, Nat.reduceLeDiff, Nat.reduceSub, Nat.reduceMul, Nat.reduceLT, Int.reduceEq, Int.reduceLT, Int.reduceLE, Int.reduceBEq, Int.reduceBNe, Int.reduceToNat, Int.reduceNeg, Int.reduceSub, Int.reduceAdd, hb, hone, byL_len, hsz2, hrow, m1, m2, m3, hw]
      refine ⟨_, by omega, k + 1, nx + 1, .rw nx 1 0 (l.length + (putB x).length), _, by omega, by omega, upd_same _ _ _, .inr ⟨nx, ?_, ?_, by omega, by omega⟩, ?_, fun j h1 h2 h3 => ?_, .inr fun j hj => ?_, rfl, rfl⟩
      · rw [hnext, List.length_append]
      · rw [upd_other (by omega), upd_same, hnext, byL_append]
      · rw [upd_other (by omega), upd_other (by omega), upd_other (by omega)]; exact hs
      · have hji : id ≠ j := fun e => by
          rcases hc1 with hc1 | hc1
          · exact h3 (by rw [← hc1, ← e]; rfl)
          · have := hc1 id rfl; omega
        rw [upd_other (by omega), upd_other (by omega), upd_other hji]; exact hfr j h1 h2 h3
      · injection hj with hj; omega
  · obtain rfl : k = ns.length := by omega
    have hnlt : ¬ ((ns.length : Nat) : Int) < ((ns.length : Nat) : Int) := by omega
    rw [List.take_length] at hB
    simp only [push_cast, Nat.reduceBEq, Nat.reduceAdd, Nat.reduceEqDiff, reduceCtorEq, Nat.reduceLeDiff, Nat.reduceSub, Nat.reduceMul, Nat.reduceLT, Int.reduceEq, Int.reduceLT, Int.reduceLE, Int.reduceBEq, Int.reduceBNe, Int.reduceToNat, Int.reduceNeg, Int.reduceSub, Int.reduceAdd, hnlt]
    exact ⟨rfl, hnx, hfr, c1, hb, hB⟩
end Go.Proofs.Ytheanmfdfoefoaa
