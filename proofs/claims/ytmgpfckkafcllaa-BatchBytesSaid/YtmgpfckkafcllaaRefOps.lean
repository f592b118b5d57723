/- assartref09.Ops. -/
import Derived.Test.YtmgpfckkafcllaaRefCheck
import Derived.Laws.StructEq
namespace Go.Proofs.Ytmgpfckkafcllaa
open Go Go.RowKit

/-- The same changes? -/
def opEq (a b : OpD) : Bool := a.kind == b.kind && a.key.toList == b.key.toList && a.val.toList == b.val.toList
theorem op_neq (x y : OpD) (w : World) : (binOp .neq 24 (.agg #[.int .i64 x.kind, .string x.key, .string x.val]) (.agg #[.int .i64 y.kind, .string y.key, .string y.val])).run Try.prog w = .ok (.bool (!opEq x y)) w := by
  have hf : Try.prog.fieldsOf 24 = Try.prog.fieldsOf 24 := rfl
  have hu : Try.prog.underlying 24 = some (.struct (Try.prog.fieldsOf 24)) := by kernel_rfl
  have hh : Try.prog.stoodInHeld 24 = false := by kernel_rfl
  rw [run_neq_struct, run_equalIn_agg _ _ _ _ _ hu hh]
  have h24 := Try.underlying24
  simp [go_sem, Program.fieldsOf, h24, Try.underlying3, Try.underlying9]
  unfold opEq
  split
  · split
    · split <;> simp [*]
    · simp [*]
  · simp [*]
theorem op_guard (x y : Operand) (xs ys : Array Value) (w : World) : (eqGuard .neq 24 x y (.agg xs) (.agg ys)).run Try.prog w = .ok () w := run_eqGuard_agg _ _ _ _ _ _ _ (by kernel_rfl)
def sameB : List OpD → List OpD → Bool
  | [], [] => true
  | a :: l, b :: m => opEq a b && sameB l m
  | _, _ => false

set_option maxRecDepth 100000 in
set_option maxHeartbeats 1000000 in
theorem Ops_calls (l m : List OpD) (v u : Value) (w : World) (hv : RdT w 3 opC v l) (hu : RdT w 3 opC u m) :
    Calls Try.prog 16 #[v, u] w fun e w' => e = .returned (.bool (sameB l m)) ∧ Below w.heap.size w w' := by
  have HV := Lib.hid hv
  have HU := Lib.hid hu
  obtain ⟨A, c, rfl, hnc, hcm, q1, q2⟩ := hv
  obtain ⟨A2, c2, rfl, hnc2, hcm2, q3, q4⟩ := hu
  clear q1 q2 q3 q4
  unfold maxLen at hcm hcm2
  go_enter Try.func16, Try.ntmps16
  by_cases hlm : l.length = m.length
  · have hlm' : ((l.length : Int) != m.length) = false := by simp; omega
    replace hlm := Lib.hid hlm
    go_wp2_with fail
    go_loopw [5] (fun iv wr => ∃ k : Nat, k ≤ l.length ∧ iv = .int .i64 (k : Int) ∧ Hid (sameB l m = sameB (l.drop k) (m.drop k)) ∧ Below w.heap.size w wr) (fun iv _ => l.length - (intOf iv).toNat)
    case atStart => exact ⟨0, Nat.zero_le _, rfl, rfl, Below.refl _ _⟩
    case round =>
      obtain ⟨k, hk, rfl, hs, hb⟩ := hrel
      have hsz := hb.size
      by_cases hkl : k < l.length
      · have hkl' : (k : Int) < l.length := by omega
        have hkm' : (k : Int) < m.length := by have := hlm.out; omega
        have hkm : k < m.length := by have := hlm.out; omega
        have h0 : (0 : Int) ≤ k := by omega
        obtain ⟨b, off, c', hA, hblt, _, _, hcell⟩ := RdT.at HV.out opC_len (by omega) hkl
        injection hA with hA _ hcc
        subst hA hcc
        obtain ⟨b2, off2, c2', hA2, hblt2, _, _, hcell2⟩ := RdT.at HU.out opC_len (by omega) hkm
        injection hA2 with hA2 _ hcc2
        subst hA2 hcc2
        have hcw : ∀ j x, (opC l[k])[j]? = some x → wr.cell? ⟨b, off + k * 3 + j, none⟩ = some x := fun j u hu => (hb.cell (p := ⟨b, _, none⟩) hblt).trans (hcell j u hu)
        have hcw2 : ∀ j x, (opC m[k])[j]? = some x → wr.cell? ⟨b2, off2 + k * 3 + j, none⟩ = some x := fun j u hu => (hb.cell (p := ⟨b2, _, none⟩) hblt2).trans (hcell2 j u hu)
        have c0 : wr.cell? ⟨b, off + k * 3, none⟩ = some (.int .i64 l[k].kind) := hcw 0 _ rfl
        have c1 : wr.cell? ⟨b, off + k * 3 + 1, none⟩ = some (.string l[k].key) := hcw 1 _ rfl
        have c2 : wr.cell? ⟨b, off + k * 3 + 2, none⟩ = some (.string l[k].val) := hcw 2 _ rfl
        have d0 : wr.cell? ⟨b2, off2 + k * 3, none⟩ = some (.int .i64 m[k].kind) := hcw2 0 _ rfl
        have d1 : wr.cell? ⟨b2, off2 + k * 3 + 1, none⟩ = some (.string m[k].key) := hcw2 1 _ rfl
        have d2 : wr.cell? ⟨b2, off2 + k * 3 + 2, none⟩ = some (.string m[k].val) := hcw2 2 _ rfl
        have hst : sameB (l.drop k) (m.drop k) = (opEq l[k] m[k] && sameB (l.drop (k + 1)) (m.drop (k + 1))) := by rw [List.drop_eq_getElem_cons hkl, List.drop_eq_getElem_cons hkm]; rfl
        rw [← hs.out] at hst
        have HQ : opEq l[k] m[k] = (l[k].kind == m[k].kind && l[k].key.toList == m[k].key.toList && l[k].val.toList == m[k].val.toList) := rfl
        obtain ⟨x, hx⟩ : ∃ x, x = l[k] := ⟨_, rfl⟩
        obtain ⟨y, hy⟩ : ∃ y, y = m[k] := ⟨_, rfl⟩
        rw [← hx] at c0 c1 c2
        rw [← hy] at d0 d1 d2
        rw [← hx, ← hy] at HQ hst
        replace hst := Lib.hid hst
        replace HQ := Lib.hid HQ
        clear hx hy hcell hcell2 hcw hcw2 hs
        go_wp2_with fail
        by_cases q1 : x.kind = y.kind
        · by_cases q2 : x.key.toList = y.key.toList
          · by_cases q3 : x.val.toList = y.val.toList
            · have hf : Hid (sameB l m = sameB (l.drop (k + 1)) (m.drop (k + 1))) := by
                show _ = _
                rw [hst.out, HQ.out]; simp [q1, q2, q3]
              clear hst HQ
              go_quiet (fail)
              go_wp2_with fail
              go_roundw
              case rel => exact ⟨k + 1, by omega, by go_num, hf, below_drewN hb _⟩
              case measure => simp [intOf]; omega
            · have hf : Hid (sameB l m = false) := by
                show _ = _
                rw [hst.out, HQ.out]; simp [q1, q2, q3]
              clear hst HQ
              go_quiet (fail)
              go_wp2_with fail
              go_ret
              rw [hf.out]
              exact ⟨rfl, below_drewN hb _⟩
          · have hf : Hid (sameB l m = false) := by
              show _ = _
              rw [hst.out, HQ.out]; simp [q1, q2]
            clear hst HQ
            go_quiet (fail)
            go_wp2_with fail
            go_ret
            rw [hf.out]
            exact ⟨rfl, below_drewN hb _⟩
        · have hf : Hid (sameB l m = false) := by
            show _ = _
            rw [hst.out, HQ.out]; simp [q1]
          clear hst HQ
          go_quiet (fail)
          go_wp2_with fail
          go_ret
          rw [hf.out]
          exact ⟨rfl, below_drewN hb _⟩
      · obtain rfl : k = l.length := by omega
        have he : Hid (sameB l m = true) := by show _ = _; rw [hs.out, List.drop_length, hlm.out, List.drop_length]; rfl
        clear hs
        go_wp2_with fail
        go_ret
        rw [he.out]
        exact ⟨rfl, hb⟩
  · have hlm' : ((l.length : Int) != m.length) = true := by simp; omega
    have hne : Hid (sameB l m = false) := by
      show _ = _
      clear HV HU hlm' hnc hnc2 hcm hcm2
      induction l generalizing m with
      | nil => cases m with
        | nil => simp at hlm
        | cons => rfl
      | cons a l ih => cases m with
        | nil => rfl
        | cons b m => simp only [sameB]; rw [ih m (by simpa using hlm)]; simp
    go_wp2_with fail
    go_ret
    rw [hne.out]
    exact ⟨rfl, Below.refl _ _⟩
end Go.Proofs.Ytmgpfckkafcllaa
