/- The walks of package varint. -/
import Derived.Test.YtheanmfdfoefoaaProg
import Derived.Test.YtheanmfdfoefoaaBytes
namespace Go.Proofs.Ytheanmfdfoefoaa
open Go Go.RowKit
theorem et_bytes : ElemT Try.prog 103 5 (.int .u8 0) 1 1 := .mk' Try.underlying103 (by kernel_rfl) rfl (by decide) (by decide)

set_option maxRecDepth 100000 in
set_option maxHeartbeats 400000 in
theorem Put_calls (n : Nat) (hn : n < U64) (w : World) :
    Calls Try.prog 75 #[.int .u64 (n : Int)] w fun e w' => ∃ v, e = .returned v ∧ w'.ownsRow w.heap.size 5 1 v (putB n).length (bc (putB n)) ∧ Below w.heap.size w w' := by
  go_enter Try.func75, Try.ntmps75
  go_wp2
  go_loopw [0, 3] (fun nv bv wr => ∃ (m : Nat) (acc : List UInt8), nv = .int .u64 (m : Int) ∧ m ≤ n ∧ wr.ownsRow w.heap.size 5 1 bv acc.length (bc acc) ∧ Hid (acc ++ putB m = putB n) ∧ Below w.heap.size w wr)
    (fun nv _ _ => (intOf nv).toNat)
  case atStart => exact ⟨n, [], rfl, Nat.le_refl _, World.ownsRow_nil _ _ _ _, rfl, Below.refl _ _⟩
  case round =>
    obtain ⟨m, acc, rfl, hm, hown, hacc, hb⟩ := hrel
    have hl : acc.length + (putB m).length ≤ 11 := by have := congrArg List.length hacc.out; have := putB_length n; simp at *; omega
    have hl0 := putB_pos m
    have hsz := hb.size
    by_cases h : m < 128
    · have h' : (m : Int) < 128 := by omega
      go_wp2_with (first
        | (at_builtin; refine wpL_app et_bytes (.tmp 14) (.tmp 17) rfl rfl (hown.alloc _) rfl rfl (src_one Try.underlying103 rfl rfl (by simp)) (by omega) (by simp; omega) ?_; intro v1 w1 hown1 hg1 hat1))
      have e : putB n = acc ++ [UInt8.ofNat m] := by rw [← hacc.out, putB_small m h]
      go_ret
      exact ⟨v1, rfl, own_cast hown1 (by simp [e]) (by rw [e, bc_append, bc_small m (by omega)]), below_app (hb.alloc hsz _) hg1 (hown.alloc _) (Nat.le_refl _) (by simp; omega)⟩
    · have h' : (128 : Int) ≤ (m : Int) := by omega
      go_wp2_with (first
        | (at_builtin; refine wpL_app et_bytes (.tmp 6) (.tmp 10) rfl rfl (hown.alloc _) rfl rfl (src_one Try.underlying103 rfl rfl (by simp)) (by omega) (by simp; omega) ?_; intro v1 w1 hown1 hg1 hat1))
      go_roundw
      case rel =>
        have hp := putB_big m (by omega) (by omega)
        have hx := hacc.out
        rw [hp] at hx
        exact ⟨m / 128, acc ++ [UInt8.ofNat (m % 128 + 128)], by go_num, by omega, own_cast hown1 (by simp) (by rw [bc_append, or128]; rfl), by rw [← hx]; simp [Hid], below_app (hb.alloc hsz _) hg1 (hown.alloc _) (Nat.le_refl _) (by simp; omega)⟩
      case measure => simp [intOf]; omega

set_option maxRecDepth 100000 in
set_option maxHeartbeats 400000 in
theorem PutText_calls (s : ByteArray) (hs : s.size ≤ 140737488351232) (w : World) :
    Calls Try.prog 77 #[.string s] w fun e w' => ∃ v, e = .returned v ∧ w'.ownsRow w.heap.size 5 1 v (textB s).length (bc (textB s)) ∧ Below w.heap.size w w' := by
  have hl := putB_length s.size
  go_enter Try.func77, Try.ntmps77
  go_wp2_with (first
    | (go_at_call 75; refine (Put_calls s.size (by unfold U64; omega) _).mono ?_; rintro e w1 ⟨v1, rfl, hown1, hb1⟩)
    | (at_builtin; refine wpL_app et_bytes (.tmp 6) (.tmp 7) rfl rfl hown1 rfl rfl (Src.ofString _ Try.underlying9 s) (by omega) hb1.size ?_; intro v2 w2 hown2 hg2 hat2))
  go_ret
  exact ⟨v2, rfl, own_cast hown2 (by simp [textB]) (by rw [textB, bc_append]; rfl), below_app hb1 hg2 hown1 (Nat.le_refl _) hb1.size⟩

end Go.Proofs.Ytheanmfdfoefoaa
