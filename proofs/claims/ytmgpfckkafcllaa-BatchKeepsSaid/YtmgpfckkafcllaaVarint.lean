/- The walks of package varint. -/
import Derived.Test.YtmgpfckkafcllaaProg
import Derived.Test.YtmgpfckkafcllaaBytes
namespace Go.Proofs.Ytmgpfckkafcllaa
open Go Go.RowKit
theorem et_bytes : ElemT Try.prog 26 5 (.int .u8 0) 1 1 := .mk' Try.underlying26 (by kernel_rfl) rfl (by decide) (by decide)

set_option maxRecDepth 100000 in
set_option maxHeartbeats 400000 in
theorem Put_calls (n : Nat) (hn : n < U64) (w : World) :
    Calls Try.prog 41 #[.int .u64 (n : Int)] w fun e w' => ∃ v, e = .returned v ∧ w'.ownsRow w.heap.size 5 1 v (putB n).length (bc (putB n)) ∧ Below w.heap.size w w' := by
  go_enter Try.func41, Try.ntmps41
  go_wp2
  go_loopw [0, 3] (fun nv bv wr => ∃ (m : Nat) (acc : List UInt8), nv = .int .u64 (m : Int) ∧ m ≤ n ∧ wr.ownsRow w.heap.size 5 1 bv acc.length (bc acc) ∧ Hid (acc ++ putB m = putB n) ∧ Below w.heap.size w wr)
    (fun nv _ _ => (intOf nv).toNat)
  case atStart => exact ⟨n, [], rfl, Nat.le_refl _, World.ownsRow_nil _ _ _ _, rfl, Below.refl _ _⟩
  case round =>
    obtain ⟨m, acc, rfl, hm, hown, hacc, hb⟩ := hrel
    have hl : acc.length + (putB m).length ≤ 11 := by have := congrArg List.length hacc.out; have := putB_length n; simp at *; omega
    have hl0 := putB_pos m
    have hsz := hb.size
    by_cases h : m < 128
    · have h' : (m : Int) < 128 := by omega
      go_wp2_with (first
        | (at_builtin; refine wpL_app et_bytes (.tmp 14) (.tmp 17) rfl rfl (hown.alloc _) rfl rfl (src_one Try.underlying26 rfl rfl (by simp)) (by omega) (by simp; omega) ?_; intro v1 w1 hown1 hg1 hat1))
      have e : putB n = acc ++ [UInt8.ofNat m] := by rw [← hacc.out, putB_small m h]
      go_ret
      exact ⟨v1, rfl, own_cast hown1 (by simp [e]) (by rw [e, bc_append, bc_small m (by omega)]), below_app (hb.alloc hsz _) hg1 (hown.alloc _) (Nat.le_refl _) (by simp; omega)⟩
    · have h' : (128 : Int) ≤ (m : Int) := by omega
      go_wp2_with (first
        | (at_builtin; refine wpL_app et_bytes (.tmp 6) (.tmp 10) rfl rfl (hown.alloc _) rfl rfl (src_one Try.underlying26 rfl rfl (by simp)) (by omega) (by simp; omega) ?_; intro v1 w1 hown1 hg1 hat1))
      go_roundw
      case rel =>
        have hp := putB_big m (by omega) (by omega)
        have hx := hacc.out
        rw [hp] at hx
        exact ⟨m / 128, acc ++ [UInt8.ofNat (m % 128 + 128)], by go_num, by omega, own_cast hown1 (by simp) (by rw [bc_append, or128]; rfl), by rw [← hx]; simp [Hid], below_app (hb.alloc hsz _) hg1 (hown.alloc _) (Nat.le_refl _) (by simp; omega)⟩
      case measure => simp [intOf]; omega

set_option maxRecDepth 100000 in
set_option maxHeartbeats 400000 in
theorem PutText_calls (s : ByteArray) (hs : s.size ≤ 140737488351232) (w : World) :
    Calls Try.prog 24 #[.string s] w fun e w' => ∃ v, e = .returned v ∧ w'.ownsRow w.heap.size 5 1 v (textB s).length (bc (textB s)) ∧ Below w.heap.size w w' := by
  have hl := putB_length s.size
  go_enter Try.func24, Try.ntmps24
  go_wp2_with (first
    | (go_at_call 41; refine (Put_calls s.size (by unfold U64; omega) _).mono ?_; rintro e w1 ⟨v1, rfl, hown1, hb1⟩)
    | (at_builtin; refine wpL_app et_bytes (.tmp 6) (.tmp 7) rfl rfl hown1 rfl rfl (Src.ofString _ Try.underlying9 s) (by omega) hb1.size ?_; intro v2 w2 hown2 hg2 hat2))
  go_ret
  exact ⟨v2, rfl, own_cast hown2 (by simp [textB]) (by rw [textB, bc_append]; rfl), below_app hb1 hg2 hown1 (Nat.le_refl _) hb1.size⟩

set_option maxRecDepth 100000 in
set_option maxHeartbeats 400000 in
theorem Fixed_calls (n s : Nat) (hn : n < 256 ^ s) (hs : s ≤ 8) (w : World) :
    Calls Try.prog 23 #[.int .u64 (n : Int), .int .i64 (s : Int)] w fun e w' => ∃ v, e = .returned (.tuple #[v, .int .i64 0]) ∧ w'.ownsRow w.heap.size 5 1 v s (bc (leB s n)) ∧ Below w.heap.size w w' := by
  have hz : n / 256 ^ s = 0 := Nat.div_eq_of_lt hn
  have h0 : (0 : Int) ≤ s := by omega
  have h8a : (s : Int) ≤ 8 := by omega
  have HZ := Lib.hid hz
  clear hz hn
  by_cases h8 : s < 8
  all_goals
    have hq : ((n : Int) / 2 ^ (8 * s) != 0) = false := by
      have e : ((n : Int) / 2 ^ (8 * s)) = ((n / 256 ^ s : Nat) : Int) := by rw [← pow_shift]; simp
      rw [e, HZ.out]; rfl
    go_enter Try.func23, Try.ntmps23
    go_wp2_with fail
    go_loopw [0, 6, 25] (fun nv bv iv wr => ∃ k : Nat, k ≤ s ∧ iv = .int .i64 (k : Int) ∧ nv = .int .u64 ((n / 256 ^ k : Nat) : Int) ∧ wr.ownsRow w.heap.size 5 1 bv k (bc (leB k n)) ∧ Below w.heap.size w wr)
      (fun _ _ iv _ => s - (intOf iv).toNat)
    case atStart => exact ⟨0, Nat.zero_le _, rfl, by simp, World.ownsRow_nil _ _ _ _, Below.refl _ _⟩
    case round =>
      obtain ⟨k, hk, rfl, rfl, hown, hb⟩ := hrel
      have hsz := hb.size
      clear hq
      obtain ⟨m, hm⟩ : ∃ m, m = n / 256 ^ k := ⟨_, rfl⟩
      rw [← hm]
      have HM := Lib.hid hm
      clear hm
      by_cases hks : k < s
      · have hks' : (k : Int) < s := by omega
        go_wp2_with (first
          | (at_builtin; refine wpL_app et_bytes (.tmp 27) (.tmp 30) rfl rfl (hown.alloc _) rfl rfl (src_one Try.underlying26 rfl rfl (by simp)) (by omega) (by simp; omega) ?_; intro v1 w1 hown1 hg1 hat1))
        go_roundw
        case rel =>
          exact ⟨k + 1, by omega, by go_num, by rw [Nat.pow_succ, ← Nat.div_div_eq_div_mul, ← HM.out]; rfl, own_cast hown1 rfl (by rw [leB_snoc, bc_append, ← HM.out, bc_byte]), below_app (hb.alloc hsz _) hg1 (hown.alloc _) (Nat.le_refl _) (by simp; omega)⟩
        case measure => simp [intOf]; omega
      · obtain rfl : k = s := by omega
        have hks' : ¬ (k : Int) < k := by omega
        go_wp2_with fail
        go_ret2
        exact ⟨_, rfl, hown, hb⟩
#print axioms Fixed_calls
end Go.Proofs.Ytmgpfckkafcllaa
