/- Chapter 16's within: does one list of cells lie in order within another? -/
import Derived.Test.YtpemfmlonamikaaKeepMore
import Derived.Test.YtpemfmlonamikaaKeepA
namespace Go.Proofs.Ytpemfmlonamikaa
open Go Go.RowKit
theorem cell_eql (x y : CellD) (w : World) : (binOp .eql 36 (.agg #[.string x.key, .int .i64 x.seq, .int .i64 x.kind, .string x.val]) (.agg #[.string y.key, .int .i64 y.seq, .int .i64 y.kind, .string y.val])).run Try.prog w = .ok (.bool (cellEq x y)) w := by
  have hu : Try.prog.underlying 36 = some (.struct (Try.prog.fieldsOf 36)) := by kernel_rfl
  have hh : Try.prog.stoodInHeld 36 = false := by kernel_rfl
  rw [run_eql_struct, run_equalIn_agg _ _ _ _ _ hu hh]
  have h24 := Try.underlying36
  have h25 := Try.underlying34
  simp [go_sem, Program.fieldsOf, h24, h25, Try.underlying3, Try.underlying9]
  unfold cellEq verEq keqB
  repeat' split
  all_goals simp [*]
theorem cell_guardE (x y : Operand) (xs ys : Array Value) (w : World) : (eqGuard .eql 36 x y (.agg xs) (.agg ys)).run Try.prog w = .ok () w := run_eqGuard_agg _ _ _ _ _ _ _ (by kernel_rfl)
theorem within_nil (b : List CellD) : withinB [] b = true := by cases b <;> rfl
set_option maxRecDepth 100000 in
set_option maxHeartbeats 1000000 in
theorem within_calls (l m : List CellD) (v u : Value) (w : World) (hv : RdT w 4 cellC v l) (hu : RdT w 4 cellC u m) :
    Calls Try.prog 17 #[v, u] w fun e w' => e = .returned (.bool (withinB l m)) ∧ Below w.heap.size w w' := by
  have HV := Lib.hid hv
  have HU := Lib.hid hu
  obtain ⟨A, c, rfl, hnc, hcm⟩ := hv.len
  obtain ⟨A2, c2, rfl, hnc2, hcm2⟩ := hu.len
  obtain ⟨R, hR⟩ : ∃ R, withinB l m = R := ⟨_, rfl⟩
  rw [hR]
  go_enter Try.func17, Try.ntmps17
  go_wp2_with fail
  go_loopw [5, 6] (fun av iv wr => ∃ j k : Nat, j ≤ l.length ∧ k ≤ m.length ∧ av = .int .i64 (j : Int) ∧ iv = .int .i64 (k : Int) ∧ Hid (withinB (l.drop j) (m.drop k) = R) ∧ Below w.heap.size w wr) (fun _ iv _ => m.length - (intOf iv).toNat)
  case atStart => exact ⟨0, 0, Nat.zero_le _, Nat.zero_le _, rfl, rfl, hR, Below.refl _ _⟩
  case round =>
    clear hR
    obtain ⟨j, k, hj, hk, rfl, rfl, hs, hb⟩ := hrel
    have hsz := hb.size
    by_cases hkm : k < m.length
    · have hkm' : (k : Int) < m.length := by omega
      have h0 : (0 : Int) ≤ k := by omega
      by_cases hjl : j < l.length
      · have hjl' : (j : Int) < l.length := by omega
        have h1 : (0 : Int) ≤ j := by omega
        obtain ⟨b, off, x, hA, hblt, hx, c0, c1, q2, c3⟩ := atCell HV.out hb hjl
        obtain ⟨b2, off2, y, hA2, hblt2, hy, d0, d1, d2, d3⟩ := atCell HU.out hb hkm
        subst hA hA2
        have hst : withinB (l.drop j) (m.drop k) = if cellEq x y then withinB (l.drop (j + 1)) (m.drop (k + 1)) else withinB (l.drop j) (m.drop (k + 1)) := by
          rw [List.drop_eq_getElem_cons hjl, List.drop_eq_getElem_cons hkm, withinB, hx.out, hy.out]
        rw [hs.out] at hst
        replace hst := Lib.hid hst
        clear hs
        have HE := Lib.hid (fun W => cell_eql x y W)
        have HQ := Lib.hid (fun (o1 o2 : Operand) (xs ys : Array Value) W => cell_guardE o1 o2 xs ys W)
        obtain ⟨be, hbe⟩ : ∃ be, cellEq x y = be := ⟨_, rfl⟩
        rw [hbe] at HE hst
        clear hbe
        go_wp2_with fail
        have HE' := HE.out
        have HQ' := HQ.out
        cases be
        · have hn : Hid (withinB (l.drop j) (m.drop (k + 1)) = R) := hst.out.symm
          go_quiet (fail)
          go_wp2_with fail
          go_roundw
          case rel => exact ⟨j, k + 1, by omega, by omega, by go_num, by go_num, hn, below_drewN hb _⟩
          case measure => simp [intOf]; omega
        · have hn : Hid (withinB (l.drop (j + 1)) (m.drop (k + 1)) = R) := hst.out.symm
          go_quiet (fail)
          go_wp2_with fail
          go_roundw
          case rel => exact ⟨j + 1, k + 1, by omega, by omega, by go_num, by go_num, hn, below_drewN hb _⟩
          case measure => simp [intOf]; omega
      · obtain rfl : j = l.length := by omega
        have he : Hid (R = true) := by show _ = _; rw [← hs.out, List.drop_length, within_nil]
        clear hs
        go_wp2_with fail
        go_ret
        rw [he.out]
        exact ⟨rfl, hb⟩
    · obtain rfl : k = m.length := by omega
      by_cases hjl : j < l.length
      · have he : Hid (R = false) := by
          show _ = _
          rw [← hs.out, List.drop_length, List.drop_eq_getElem_cons hjl]; rfl
        clear hs
        have hne : ((j : Int) == l.length) = false := by simp; omega
        go_wp2_with fail
        go_ret
        rw [he.out]
        exact ⟨rfl, hb⟩
      · obtain rfl : j = l.length := by omega
        have he : Hid (R = true) := by show _ = _; rw [← hs.out, List.drop_length, within_nil]
        clear hs
        go_wp2_with fail
        go_ret
        rw [he.out]
        exact ⟨rfl, hb⟩
end Go.Proofs.Ytpemfmlonamikaa
