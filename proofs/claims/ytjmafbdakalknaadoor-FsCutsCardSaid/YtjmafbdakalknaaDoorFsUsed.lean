/- Files that a crash may cut: Used, New, by the walk over a heap. -/
import Derived.Test.YtjmafbdakalknaaDoorFsW
set_option linter.unusedVariables false
set_option linter.unusedSimpArgs false
namespace Go.Proofs.YtjmafbdakalknaaDoor
open Go Go.RowKit Hv
set_option maxRecDepth 20000
set_option maxHeartbeats 4000000
theorem find_bornE {κ ν : Type} [DecidableEq κ] {kA : κ → AV} {vA : ν → AV} {es : List (Ent κ ν)} (hn : (es.map (·.born)).Nodup) {x : Ent κ ν} (hx : x ∈ es) : (es.map (Ent.me kA vA)).find? (fun e => e.born == x.born) = some ⟨kA x.key, vA x.val, x.born⟩ := by
  induction es with
  | nil => cases hx
  | cons e es ih =>
    rw [List.map_cons, List.nodup_cons] at hn
    rw [List.map_cons, List.find?_cons]
    rcases List.mem_cons.1 hx with rfl | hx'
    · simp [Ent.me]
    · have hne : (e.born == x.born) = false := by
        rw [beq_eq_false_iff_ne]
        intro h
        exact hn.1 (List.mem_map.2 ⟨x, hx', h.symm⟩)
      have : ((Ent.me kA vA e).born == x.born) = false := hne
      rw [this]
      exact ih hn.2 hx'
theorem left_lenE {κ ν : Type} [DecidableEq κ] {es : List (Ent κ ν)} {seen : List Nat} (hn : (es.map (·.born)).Nodup) {x : Ent κ ν} (hx : x ∈ leftL es seen) : (leftL es (seen ++ [x.born])).length < (leftL es seen).length := by
  have := (leftL_next hn hx).length_eq
  rw [List.length_cons] at this; omega
theorem sum_le {l : List Nat} {c : Nat} (h : ∀ x ∈ l, x ≤ c) : l.sum ≤ l.length * c := by
  induction l with
  | nil => simp
  | cons a l ih =>
    have h1 := h a (by simp)
    have h2 := ih fun x hx => h x (by simp [hx])
    rw [List.sum_cons, List.length_cons, Nat.succ_mul]; omega
theorem file_len {d : FsD} (hok : FsOk d) (i : Nat) : (d.file i).b.length ≤ 1048576 := by
  unfold FsD.file
  cases h : d.files[i]? with
  | none => exact Nat.zero_le _
  | some x => exact (hok.len i x h).1
theorem used_le {d : FsD} (hok : FsOk d) : d.used ≤ 419430400 := by
  unfold FsD.used
  refine Nat.le_trans (sum_le (c := 1048576) fun x hx => ?_) ?_
  · obtain ⟨e, _, rfl⟩ := List.mem_map.1 hx
    exact file_len hok _
  · rw [List.length_map]
    have := hok.nowL
    have : d.now.1.length * 1048576 ≤ 400 * 1048576 := Nat.mul_le_mul_right _ this
    omega
theorem used_h {H : Hp} {S : Nat → Prop} {n p : Nat} {L : FsL} {d : FsD} (h : FsH H S p L d) (hok : FsOk d) (hS : ∀ j, S j → j < n) :
    HCalls Tryd.prog 21 [.ptr p 0] H n fun r H' n' => r = .lit (.int .i64 (d.used : Int)) ∧ n' = n + 1 ∧ ∀ j, j < n → H' j = H j := by
  refine hcallsC_of (rs := [.tmp 2]) ⟨[0, 2, 3, 5, 7, 12, 14], [], [], []⟩ TOk mixed Tryd.func21 rfl rfl (by kernel_rfl) (by kernel_rfl) rfl ?_
  have h0 := h.top
  unfold topA at h0
  have h1 := h.now
  unfold mapA at h1
  have hmn := hS _ h.Sn
  simp only [push_cast, Nat.reduceBEq, Nat.reduceAdd, Nat.reduceEqDiff, reduceCtorEq, Nat.reduceLeDiff, Nat.reduceSub, Nat.reduceMul, Nat.reduceLT, Int.reduceEq, Int.reduceLT, Int.reduceLE, Int.reduceBEq, Int.reduceBNe, Int.reduceToNat, Int.reduceNeg, Int.reduceSub, Int.reduceAdd, h0, h1]
  have hmo := hok.nowOk
  refine loopK (fun m s' => ∃ (seen : List Nat) (acc : Nat) (H4 : Hp), (∀ j, j < n → H4 j = H j) ∧ H4 n = some (.iter (some L.mn) d.now.2 seen d.now.2) ∧ acc + ((leftL d.now.1 seen).map fun e => (d.file e.val).b.length).sum = d.used ∧ m = (leftL d.now.1 seen).length ∧
    s' = ⟨[(0, .ptr p 0), (3, .lit (.int .i64 (acc : Int))), (12, .ptr n 0)], H4, n + 1⟩) _ [0, 3, 12] ⟨[], 0, _, fun j hj => upd_other (by omega), upd_same _ _ _, by rw [leftL_nil, Nat.zero_add]; rfl, rfl, rfl⟩ ?_
  rintro m _ ⟨seen, acc, H4, hold, hoi, hsum, rfl, rfl⟩
  have hm4 : H4 L.mn = _ := (hold _ hmn).trans h1
  simp only [push_cast, Nat.reduceBEq, Nat.reduceAdd, Nat.reduceEqDiff, reduceCtorEq, Nat.reduceLeDiff, Nat.reduceSub, Nat.reduceMul, Nat.reduceLT, Int.reduceEq, Int.reduceLT, Int.reduceLE, Int.reduceBEq, Int.reduceBNe, Int.reduceToNat, Int.reduceNeg, Int.reduceSub, Int.reduceAdd, hm4, hoi]
  refine nextK (borns_me hmo) (Nat.le_refl _) (fun hle => ?_) (fun x0 hx0 => ?_)
  · have hle' : leftL d.now.1 seen = [] := by
      rw [leftE_me] at hle
      exact List.map_eq_nil_iff.1 hle
    rw [hle', List.map_nil, List.sum_nil, Nat.add_zero] at hsum
    subst hsum
    simp only [push_cast, Nat.reduceBEq, Nat.reduceAdd, Nat.reduceEqDiff, reduceCtorEq, Nat.reduceLeDiff, Nat.reduceSub, Nat.reduceMul, Nat.reduceLT, Int.reduceEq, Int.reduceLT, Int.reduceLE, Int.reduceBEq, Int.reduceBNe, Int.reduceToNat, Int.reduceNeg, Int.reduceSub, Int.reduceAdd]
    exact hold
  · rw [leftE_me] at hx0
    obtain ⟨x, hxl, rfl⟩ := List.mem_map.1 hx0
    clear hx0
    have hxm : x ∈ d.now.1 := (List.mem_filter.1 hxl).1
    have hfb := find_bornE (kA := strA) (vA := fA L.fid) hmo.borns hxm
    simp only [strA, fA] at hfb
    have hll := left_lenE hmo.borns hxl
    have hnext := leftL_next hmo.borns hxl
    have hlt := (hok.nowI x hxm).1
    have hfx : d.files[x.val]? = some (d.file x.val) := by unfold FsD.file; rw [List.getElem?_eq_getElem hlt]; rfl
    obtain ⟨bv, hb1, hb2⟩ := h.file _ _ hfx
    have hSf := h.Sf _ hlt
    have hfid := hS _ hSf.1
    have hrid := hS _ hSf.2
    have hb4 : H4 (L.fid x.val) = _ := (hold _ hfid).trans hb1
    have hle := used_le hok
    have hsm : ((leftL d.now.1 seen).map fun e => (d.file e.val).b.length).sum = (d.file x.val).b.length + ((leftL d.now.1 (seen ++ [x.born])).map fun e => (d.file e.val).b.length).sum := by
      have := (hnext.map fun e => (d.file e.val).b.length).sum_nat
      rw [this, List.map_cons, List.sum_cons]
    obtain ⟨ln, hln⟩ : ∃ ln, (d.file x.val).b.length = ln := ⟨_, rfl⟩
    have hw : IntKind.i64.wrap ((acc : Int) + (ln : Int)) = ((acc + ln : Nat) : Int) := by
      rw [IntWalk.i64_in _ (by omega)]; omega
    have ne1 : (n == L.mn) = false := by rw [← Bool.not_eq_true, beq_iff_eq]; omega
    have ne2 : (n == L.fid x.val) = false := by rw [← Bool.not_eq_true, beq_iff_eq]; omega
    have fin : ∀ H5 : Hp, (∀ j, j ≠ n → H5 j = H4 j) → ∀ j, j < n → H5 j = H j := fun H5 h5 j hj => (h5 j (by omega)).trans (hold j hj)
    rcases hb2 with ⟨rfl, hl0, _⟩ | ⟨rfl, hrow⟩
    · rw [hl0] at hln
      simp only [List.length_nil] at hln
      subst hln
      have hw0 : IntKind.i64.wrap ((acc : Int) + 0) = (acc : Int) := by rw [Int.add_zero]; exact IntWalk.i64_in _ (by omega)
      simp only [push_cast, Nat.reduceBEq, Nat.reduceAdd, Nat.reduceEqDiff, reduceCtorEq, Nat.reduceLeDiff, Nat.reduceSub, Nat.reduceMul, Nat.reduceLT, Int.reduceEq, Int.reduceLT, Int.reduceLE, Int.reduceBEq, Int.reduceBNe, Int.reduceToNat, Int.reduceNeg, Int.reduceSub, Int.reduceAdd, Ent.me, strA, fA, hm4, List.getLast?_concat, hfb, ne1, ne2, hb4, hw0]
      refine ⟨_, hll, seen ++ [x.born], acc, _, fin _ (fun j hj => upd_other (fun e => hj e.symm)), upd_same _ _ _, ?_, rfl, rfl⟩
      rw [hl0] at hsm
      simp only [List.length_nil, Nat.zero_add] at hsm
      rw [← hsm]; exact hsum
    · simp only [push_cast, Nat.reduceBEq, Nat.reduceAdd, Nat.reduceEqDiff, reduceCtorEq, Nat.reduceLeDiff, Nat.reduceSub, Nat.reduceMul, Nat.reduceLT, Int.reduceEq, Int.reduceLT, Int.reduceLE, Int.reduceBEq, Int.reduceBNe, Int.reduceToNat, Int.reduceNeg, Int.reduceSub, Int.reduceAdd, Ent.me, strA, fA, hm4, List.getLast?_concat, hfb, ne1, ne2, hb4, hln, hw]
      refine ⟨_, hll, seen ++ [x.born], acc + ln, _, fin _ (fun j hj => upd_other (fun e => hj e.symm)), upd_same _ _ _, ?_, rfl, by simp⟩
      rw [hln] at hsm
      omega
end Go.Proofs.YtjmafbdakalknaaDoor
