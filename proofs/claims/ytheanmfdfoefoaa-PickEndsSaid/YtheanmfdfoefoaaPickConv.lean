/- assartlaw19: tables, metas; assartref17.Metas. -/
import Derived.Test.YtheanmfdfoefoaaRefTab
import Derived.Test.YtheanmfdfoefoaaRdx
import Derived.OwnWalk
import Derived.Laws.StructEq
namespace Go.Proofs.Ytheanmfdfoefoaa
open Go Go.RowKit

theorem et_emeta : ElemT Try.prog 30 51 (.agg #[.int .i64 0, .int .i64 0, .string ⟨#[]⟩, .string ⟨#[]⟩]) 4 48 := .mk' Try.underlying30 (by kernel_rfl) rfl (by decide) (by decide)
theorem flat_next {α : Type} {f : α → List Value} {l : List α} {k : Nat} (hk : k < l.length) : (l.take (k + 1)).flatMap f = (l.take k).flatMap f ++ f l[k] := by
  rw [take_next hk, List.flatMap_append]; simp

set_option maxRecDepth 100000 in
set_option maxHeartbeats 400000 in
theorem metas_calls (l : List MetaD) (v : Value) (w : World) (hv : RdT w 4 metaC v l) (hl : l.length ≤ 1000000) :
    Calls Try.prog 23 #[v] w fun e w' => ∃ v', e = .returned v' ∧ w'.ownsRow w.heap.size 56 4 v' l.length (l.flatMap metaC) ∧ Below w.heap.size w w' := by
  have HV := Lib.hid hv
  obtain ⟨A, c, rfl, hnc, hcm⟩ := hv.len
  go_enter Try.func23, Try.ntmps23
  go_wp2_with fail
  go_loopw [3, 4] (fun ov iv wr => ∃ k : Nat, k ≤ l.length ∧ iv = .int .i64 (k : Int) ∧ wr.ownsRow w.heap.size 56 4 ov k ((l.take k).flatMap metaC) ∧ Below w.heap.size w wr)
    (fun _ iv _ => l.length - (intOf iv).toNat)
  case atStart => exact ⟨0, Nat.zero_le _, rfl, World.ownsRow_nil _ _ _ _, Below.refl _ _⟩
  case round =>
    obtain ⟨k, hk, rfl, hown, hb⟩ := hrel
    have hsz := hb.size
    by_cases hkl : k < l.length
    · have hkl' : (k : Int) < l.length := by omega
      have h0 : (0 : Int) ≤ k := by omega
      obtain ⟨b, off, m, hA, hblt, hm, c0, c1, c2, c3⟩ := atMeta HV.out hb hkl
      subst hA
      have hw : (l.take (k + 1)).flatMap metaC = (l.take k).flatMap metaC ++ metaC m := by rw [flat_next hkl, hm.out]
      generalize (l.take k).flatMap metaC = acc at *
      replace hw := Lib.hid hw
      have B1 : (k + 1) * 48 ≤ 140737488355328 := by omega
      have KS : ∀ W, Below w.heap.size wr W → W.cell? ⟨b, off + k * 4, none⟩ = some (.int .i64 m.file) ∧ W.cell? ⟨b, off + k * 4 + 1, none⟩ = some (.int .i64 m.size) ∧ W.cell? ⟨b, off + k * 4 + 2, none⟩ = some (.string m.first) ∧ W.cell? ⟨b, off + k * 4 + 3, none⟩ = some (.string m.last) := fun W h =>
        ⟨(below_at h hblt _).trans c0, (below_at h hblt _).trans c1, (below_at h hblt _).trans c2, (below_at h hblt _).trans c3⟩
      replace KS := Lib.hid KS
      go_wp2_with fail
      go_region_held3 (fun W => W.cell? ⟨b, off + k * 4, none⟩ = some (.int .i64 m.file) ∧ W.cell? ⟨b, off + k * 4 + 1, none⟩ = some (.int .i64 m.size) ∧ W.cell? ⟨b, off + k * 4 + 2, none⟩ = some (.string m.first) ∧ W.cell? ⟨b, off + k * 4 + 3, none⟩ = some (.string m.last))
        (first | exact KS.out _ (Below.refl _ _).drew | exact KS.out _ ((Below.refl _ _).alloc hsz _).drew | exact KS.out _ hb1)
        ((refine step_app et_meta (.tmp 11) (.tmp 33) rfl rfl (hown.alloc _) rfl rfl (src_blk (sz := 4) (cs := metaC m) (e := 56) (fr := (0, 0)) Try.underlying25 (new_at rfl) rfl (metaC_one _)) B1 ?_ ?_
          · exact Nat.le_trans hsz (by simp)
          intro v1 w1 hown1 hg1 hat1
          have hb0 := below_app ((hb.alloc hsz _).drew) hg1 (hown.alloc _) (Nat.le_refl _) (Nat.le_trans hsz (by simp))
          have hb1 : Below w.heap.size wr w1 := below_app (((Below.refl w.heap.size wr).alloc hsz _).drew) hg1 (hown.alloc _) (Nat.le_refl _) (Nat.le_trans hsz (by simp))))
      go_wp2_with fail
      go_roundw
      case rel => exact ⟨k + 1, by omega, by go_num, own_cast hown1 rfl (by rw [hw.out]), hb0⟩
      case measure => simp [intOf]; omega
    · obtain rfl : k = l.length := by omega
      rw [List.take_length] at hown
      obtain ⟨A2, c2, hov, _, _, _, _⟩ := Rd.of_own hown
      subst hov
      go_wp2_with fail
      go_ret
      exact ⟨_, rfl, hown, hb⟩
set_option maxRecDepth 100000 in
set_option maxHeartbeats 400000 in
theorem tables_calls (l : List MetaD) (v : Value) (w : World) (hv : RdT w 4 metaC v l) (hl : l.length ≤ 1000000) :
    Calls Try.prog 28 #[v] w fun e w' => ∃ v', e = .returned v' ∧ w'.ownsRow w.heap.size 51 4 v' l.length (l.flatMap metaC) ∧ Below w.heap.size w w' := by
  have HV := Lib.hid hv
  obtain ⟨A, c, rfl, hnc, hcm⟩ := hv.len
  go_enter Try.func28, Try.ntmps28
  obtain ⟨i0, hi, hz0, hz1, hz2⟩ := et_emeta.hi
  have hlw : IntKind.i64.wrap ((l.length : Int) + 1) = ((l.length + 1 : Nat) : Int) := by rw [IntWalk.i64_in _ (by omega)]; omega
  replace hlw := Lib.hid hlw
  have hln : (l.length : Int) ≤ 1000000 := by omega
  go_wp2_with (at_make; refine wpList_make_own _ rfl _ _ 30 rfl w.heap.size 51 i0 _ 4 et_emeta.ht hi hz0 hz1 .i64 .i64 _ (l.length + 1) rfl rfl ?_ ?_ ?_ (Nat.le_refl _) ?_; (first | rfl | omega | simp; done); (rw [hz2]; omega); (unfold maxLen; omega); intro w0 hown0 hg0)
  have hb0 : Below w.heap.size w w0 := (Below.refl _ _).grown hg0 (Nat.le_refl _) (fun k hk => by cases hk)
  go_loopw [3, 4] (fun ov iv wr => ∃ k : Nat, k ≤ l.length ∧ iv = .int .i64 (k : Int) ∧ wr.ownsRow w.heap.size 51 4 ov k ((l.take k).flatMap metaC) ∧ Below w.heap.size w wr)
    (fun _ iv _ => l.length - (intOf iv).toNat)
  case atStart => exact ⟨0, Nat.zero_le _, rfl, hown0, hb0⟩
  case round =>
    obtain ⟨k, hk, rfl, hown, hb⟩ := hrel
    have hsz := hb.size
    by_cases hkl : k < l.length
    · have hkl' : (k : Int) < l.length := by omega
      have h0 : (0 : Int) ≤ k := by omega
      obtain ⟨b, off, m, hA, hblt, hm, c0, c1, c2, c3⟩ := atMeta HV.out hb hkl
      subst hA
      have hw : (l.take (k + 1)).flatMap metaC = (l.take k).flatMap metaC ++ metaC m := by rw [flat_next hkl, hm.out]
      generalize (l.take k).flatMap metaC = acc at *
      replace hw := Lib.hid hw
      have B1 : (k + 1) * 48 ≤ 140737488355328 := by omega
      have KS : ∀ W, Below w.heap.size wr W → W.cell? ⟨b, off + k * 4, none⟩ = some (.int .i64 m.file) ∧ W.cell? ⟨b, off + k * 4 + 1, none⟩ = some (.int .i64 m.size) ∧ W.cell? ⟨b, off + k * 4 + 2, none⟩ = some (.string m.first) ∧ W.cell? ⟨b, off + k * 4 + 3, none⟩ = some (.string m.last) := fun W h =>
        ⟨(below_at h hblt _).trans c0, (below_at h hblt _).trans c1, (below_at h hblt _).trans c2, (below_at h hblt _).trans c3⟩
      replace KS := Lib.hid KS
      go_wp2_with fail
      go_region_held3 (fun W => W.cell? ⟨b, off + k * 4, none⟩ = some (.int .i64 m.file) ∧ W.cell? ⟨b, off + k * 4 + 1, none⟩ = some (.int .i64 m.size) ∧ W.cell? ⟨b, off + k * 4 + 2, none⟩ = some (.string m.first) ∧ W.cell? ⟨b, off + k * 4 + 3, none⟩ = some (.string m.last))
        (first | exact KS.out _ (Below.refl _ _).drew | exact KS.out _ ((Below.refl _ _).alloc hsz _).drew | exact KS.out _ hb1)
        ((refine step_app et_emeta (.tmp 15) (.tmp 37) rfl rfl (hown.alloc _) rfl rfl (src_blk (sz := 4) (cs := metaC m) (e := 51) (fr := (0, 0)) Try.underlying30 (new_at rfl) rfl (metaC_one _)) B1 ?_ ?_
          · exact Nat.le_trans hsz (by simp)
          intro v1 w1 hown1 hg1 hat1
          have hb0 := below_app ((hb.alloc hsz _).drew) hg1 (hown.alloc _) (Nat.le_refl _) (Nat.le_trans hsz (by simp))
          have hb1 : Below w.heap.size wr w1 := below_app (((Below.refl w.heap.size wr).alloc hsz _).drew) hg1 (hown.alloc _) (Nat.le_refl _) (Nat.le_trans hsz (by simp))))
      go_wp2_with fail
      go_roundw
      case rel => exact ⟨k + 1, by omega, by go_num, own_cast hown1 rfl (by rw [hw.out]), hb0⟩
      case measure => simp [intOf]; omega
    · obtain rfl : k = l.length := by omega
      rw [List.take_length] at hown
      obtain ⟨A2, c2, hov, _, _, _, _⟩ := Rd.of_own hown
      subst hov
      go_wp2_with fail
      go_ret
      exact ⟨_, rfl, hown, hb⟩

/-- The same tables? -/
def metaEq (a b : MetaD) : Bool := a.file == b.file && a.size == b.size && a.first.toList == b.first.toList && a.last.toList == b.last.toList
def sameM : List MetaD → List MetaD → Bool
  | [], [] => true
  | a :: l, b :: m => metaEq a b && sameM l m
  | _, _ => false
theorem metaEq_refl (a : MetaD) : metaEq a a = true := by simp [metaEq]
theorem sameM_refl : ∀ (l : List MetaD), sameM l l = true := by
  intro l
  induction l with
  | nil => rfl
  | cons a l ih => simp [sameM, metaEq_refl, ih]
theorem sameM_len : ∀ (l m : List MetaD), l.length ≠ m.length → sameM l m = false := by
  intro l
  induction l with
  | nil => intro m h; cases m with
    | nil => simp at h
    | cons => rfl
  | cons a l ih => intro m h; cases m with
    | nil => rfl
    | cons b m => simp only [sameM]; rw [ih m (by simpa using h)]; simp
theorem meta_neq (x y : MetaD) (w : World) : (binOp .neq 56 (.agg #[.int .i64 x.file, .int .i64 x.size, .string x.first, .string x.last]) (.agg #[.int .i64 y.file, .int .i64 y.size, .string y.first, .string y.last])).run Try.prog w = .ok (.bool (!metaEq x y)) w := by
  have hu : Try.prog.underlying 56 = some (.struct (Try.prog.fieldsOf 56)) := by kernel_rfl
  have hh : Try.prog.stoodInHeld 56 = false := by kernel_rfl
  rw [run_neq_struct, run_equalIn_agg _ _ _ _ _ hu hh]
  have h24 := Try.underlying56
  simp [go_sem, Program.fieldsOf, h24, Try.underlying3, Try.underlying9]
  unfold metaEq
  repeat' split
  all_goals simp [*]
theorem meta_guard (x y : Operand) (xs ys : Array Value) (w : World) : (eqGuard .neq 56 x y (.agg xs) (.agg ys)).run Try.prog w = .ok () w := run_eqGuard_agg _ _ _ _ _ _ _ (by kernel_rfl)

set_option maxRecDepth 100000 in
set_option maxHeartbeats 1000000 in
theorem Metas_calls (l m : List MetaD) (v u : Value) (w : World) (hv : RdT w 4 metaC v l) (hu : RdT w 4 metaC u m) :
    Calls Try.prog 22 #[v, u] w fun e w' => e = .returned (.bool (sameM l m)) ∧ Below w.heap.size w w' := by
  have HV := Lib.hid hv
  have HU := Lib.hid hu
  obtain ⟨A, c, rfl, hnc, hcm⟩ := hv.len
  obtain ⟨A2, c2, rfl, hnc2, hcm2⟩ := hu.len
  go_enter Try.func22, Try.ntmps22
  by_cases hlm : l.length = m.length
  · have hlm' : ((l.length : Int) != m.length) = false := by simp; omega
    replace hlm := Lib.hid hlm
    go_wp2_with fail
    go_loopw [5] (fun iv wr => ∃ k : Nat, k ≤ l.length ∧ iv = .int .i64 (k : Int) ∧ Hid (sameM l m = sameM (l.drop k) (m.drop k)) ∧ Below w.heap.size w wr) (fun iv _ => l.length - (intOf iv).toNat)
    case atStart => exact ⟨0, Nat.zero_le _, rfl, rfl, Below.refl _ _⟩
    case round =>
      obtain ⟨k, hk, rfl, hs, hb⟩ := hrel
      have hsz := hb.size
      by_cases hkl : k < l.length
      · have hkl' : (k : Int) < l.length := by omega
        have hkm' : (k : Int) < m.length := by have := hlm.out; omega
        have hkm : k < m.length := by have := hlm.out; omega
        have h0 : (0 : Int) ≤ k := by omega
        obtain ⟨b, off, x, hA, hblt, hx, c0, c1, q2, c3⟩ := atMeta HV.out hb hkl
        obtain ⟨b2, off2, y, hA2, hblt2, hy, d0, d1, d2, d3⟩ := atMeta HU.out hb hkm
        subst hA hA2
        have hst : sameM (l.drop k) (m.drop k) = (metaEq x y && sameM (l.drop (k + 1)) (m.drop (k + 1))) := by rw [List.drop_eq_getElem_cons hkl, List.drop_eq_getElem_cons hkm, sameM, hx.out, hy.out]
        rw [← hs.out] at hst
        replace hst := Lib.hid hst
        clear hs
        have HE := Lib.hid (fun W => meta_neq x y W)
        have HQ := Lib.hid (fun (o1 o2 : Operand) (xs ys : Array Value) W => meta_guard o1 o2 xs ys W)
        obtain ⟨be, hbe⟩ : ∃ be, metaEq x y = be := ⟨_, rfl⟩
        rw [hbe] at HE hst
        clear hbe
        go_wp2_with fail
        have HE' := HE.out
        have HQ' := HQ.out
        cases be
        · go_quiet (fail)
          go_wp2_with fail
          go_ret
          rw [hst.out]
          exact ⟨rfl, below_drewN hb _⟩
        · go_quiet (fail)
          go_wp2_with fail
          go_roundw
          case rel => exact ⟨k + 1, by omega, by go_num, hst, below_drewN hb _⟩
          case measure => simp [intOf]; omega
      · obtain rfl : k = l.length := by omega
        have he : Hid (sameM l m = true) := by show _ = _; rw [hs.out, List.drop_length, hlm.out, List.drop_length]; rfl
        clear hs
        go_wp2_with fail
        go_ret
        rw [he.out]
        exact ⟨rfl, hb⟩
  · have hlm' : ((l.length : Int) != m.length) = true := by simp; omega
    have hne : Hid (sameM l m = false) := sameM_len l m hlm
    go_wp2_with fail
    go_ret
    rw [hne.out]
    exact ⟨rfl, Below.refl _ _⟩
end Go.Proofs.Ytheanmfdfoefoaa
