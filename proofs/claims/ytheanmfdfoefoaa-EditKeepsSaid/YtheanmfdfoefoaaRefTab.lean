/- assartref17: key, Table, without, count, has, put. -/
import Derived.Test.YtheanmfdfoefoaaBase
import Derived.Test.YtheanmfdfoefoaaDoc
import Derived.Deep.RegionLaw
import Derived.Deep.RegionHeldLaw
namespace Go.Proofs.Ytheanmfdfoefoaa
open Go Go.RowKit

theorem et_meta : ElemT Try.prog 25 56 (.agg #[.int .i64 0, .int .i64 0, .string ⟨#[]⟩, .string ⟨#[]⟩]) 4 48 := .mk' Try.underlying25 (by kernel_rfl) rfl (by decide) (by decide)
theorem metaC_one (m : MetaD) : ∀ u ∈ metaC m, u.oneCell' = true := by
  intro u hu
  simp only [metaC, List.mem_cons, List.not_mem_nil, or_false] at hu
  rcases hu with rfl | rfl | rfl | rfl <;> rfl

set_option maxRecDepth 100000 in
set_option maxHeartbeats 400000 in
theorem key_calls (s : ByteArray) (w : World) : Calls Try.prog 104 #[.string s] w fun e w' => e = .returned (.bool (keyB s)) ∧ w = w' := by
  go_enter Try.func104, Try.ntmps104
  go_wp2
  all_goals (go_ret; exact ⟨ret_bool (by simp [keyB, *]), rfl⟩)

set_option maxRecDepth 100000 in
set_option maxHeartbeats 1000000 in
theorem Table_calls (m : MetaD) (w : World) : Calls Try.prog 64 #[.agg #[.int .i64 m.file, .int .i64 m.size, .string m.first, .string m.last]] w fun e w' => e = .returned (.bool (tableB m)) ∧ Below w.heap.size w w' := by
  have HT : Hid (tableB m = (decide (1 ≤ m.file) && decide (m.file ≤ 999999) && decide (1 ≤ m.size) && decide (m.size ≤ 1048576) && keyB m.first && keyB m.last && sle m.first m.last)) := rfl
  generalize tableB m = r at *
  have HS : Hid (sle m.first m.last = (Op.bytesLess m.first.toList m.last.toList || m.first.toList == m.last.toList)) := rfl
  generalize sle m.first m.last = sl at *
  generalize hk1 : keyB m.first = k1 at *
  generalize hk2 : keyB m.last = k2 at *
  have K1 := Lib.hid (key_calls m.first)
  have K2 := Lib.hid (key_calls m.last)
  rw [hk1] at K1
  rw [hk2] at K2
  clear hk1 hk2
  go_enter Try.func64, Try.ntmps64
  go_wp2_with (first | ((with_reducible refine (K1.out _).mono ?_); rintro e w1 ⟨rfl, rfl⟩) | ((with_reducible refine (K2.out _).mono ?_); rintro e w1 ⟨rfl, rfl⟩))
  all_goals (go_ret; exact ⟨ret_bool (by rw [HT.out, HS.out]; clear HT HS K1 K2; first | (simp_all; done) | (simp_all; omega)), (Below.refl _ _).alloc (Nat.le_refl _) _⟩)

set_option maxRecDepth 100000 in
set_option maxHeartbeats 400000 in
theorem without_calls (l : List MetaD) (f : Int) (v : Value) (w : World) (hv : RdT w 4 metaC v l) (hl : l.length ≤ 1000000) :
    Calls Try.prog 66 #[v, .int .i64 f] w fun e w' => ∃ v', e = .returned (.tuple #[v', .bool (decide ((withoutL l f).length < l.length))]) ∧
      w'.ownsRow w.heap.size 56 4 v' (withoutL l f).length ((withoutL l f).flatMap metaC) ∧ Below w.heap.size w w' := by
  have HV := Lib.hid hv
  obtain ⟨A, c, rfl, hnc, hcm⟩ := hv.len
  go_enter Try.func66, Try.ntmps66
  go_wp2_with fail
  go_loopw [6, 7] (fun ov iv wr => ∃ k : Nat, k ≤ l.length ∧ iv = .int .i64 (k : Int) ∧ wr.ownsRow w.heap.size 56 4 ov (withoutL (l.take k) f).length ((withoutL (l.take k) f).flatMap metaC) ∧ Below w.heap.size w wr)
    (fun _ iv _ => l.length - (intOf iv).toNat)
  case atStart => exact ⟨0, Nat.zero_le _, rfl, World.ownsRow_nil _ _ _ _, Below.refl _ _⟩
  case round =>
    obtain ⟨k, hk, rfl, hown, hb⟩ := hrel
    have hsz := hb.size
    by_cases hkl : k < l.length
    · have hkl' : (k : Int) < l.length := by omega
      have h0 : (0 : Int) ≤ k := by omega
      obtain ⟨b, off, m, hA, hblt, hm, c0, c1, c2, c3⟩ := atMeta HV.out hb hkl
      subst hA
      have hw : withoutL (l.take (k + 1)) f = withoutL (l.take k) f ++ if m.file != f then [m] else [] := by
        unfold withoutL; rw [filter_next hkl, hm.out]
      have hle : (withoutL (l.take k) f).length ≤ k := by unfold withoutL; exact Nat.le_trans (List.length_filter_le _ _) (by simp; omega)
      generalize withoutL (l.take k) f = acc at *
      replace hw := Lib.hid hw
      by_cases hf : m.file = f
      · have hf' : (m.file != f) = false := by simp [hf]
        replace hf := Lib.hid hf
        go_wp2_with fail
        go_roundw
        case rel => exact ⟨k + 1, by omega, by go_num, own_cast hown (by rw [hw.out]; simp [hf.out]) (by rw [hw.out]; simp [hf.out]), hb⟩
        case measure => simp [intOf]; omega
      · have hf' : (m.file != f) = true := by simpa using hf
        go_wp2_with (at_builtin; refine wpL_app et_meta (.tmp 21) (.tmp 26) rfl rfl (hown.alloc _) rfl rfl (src_blk (sz := 4) (cs := metaC m) (e := 56) (fr := (0, 0)) Try.underlying25 (new_at rfl) rfl (metaC_one _)) (by omega) (by simp; omega) ?_; intro v1 w1 hown1 hg1 hat1)
        go_roundw
        case rel => exact ⟨k + 1, by omega, by go_num, own_cast hown1 (by rw [hw.out]; simp [hf']) (by rw [hw.out]; simp [hf']), below_app (hb.alloc hsz _) hg1 (hown.alloc _) (Nat.le_refl _) (by simp; omega)⟩
        case measure => simp [intOf]; omega
    · obtain rfl : k = l.length := by omega
      rw [List.take_length] at hown
      obtain ⟨A2, c2, hov, _, _, _, _⟩ := Rd.of_own hown
      subst hov
      go_wp2_with fail
      go_ret2
      exact ⟨_, by simp, hown, hb⟩
end Go.Proofs.Ytheanmfdfoefoaa
