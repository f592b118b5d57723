/- Files that a crash may cut: names, the small calls, by the walk over a heap. -/
import Derived.Test.YtjmafbdakalknaaDoorFsR
set_option linter.unusedVariables false
set_option linter.unusedSimpArgs false
namespace Go.Proofs.YtjmafbdakalknaaDoor
open Go Go.RowKit Hv
set_option maxRecDepth 20000
set_option maxHeartbeats 4000000
def nameC : ByteArray := ⟨#[97, 98, 99, 100, 101, 102, 103, 104, 105, 106, 107, 108, 109, 110, 111, 112, 113, 114, 115, 116, 117, 118, 119, 120, 121, 122, 48, 49, 50, 51, 52, 53, 54, 55, 56, 57, 46, 45]⟩
theorem dw_nil {α : Type} (p : α → Bool) (l : List α) : l.dropWhile p = [] ↔ l.all p = true := by
  induction l with
  | nil => simp
  | cons a l ih =>
    rw [List.dropWhile_cons, List.all_cons]
    cases h : p a with
    | true => simpa using ih
    | false => simp
theorem dw_all {α : Type} (p : α → Bool) (l : List α) : (l.dropWhile p).all p = true ↔ l.dropWhile p = [] := by
  induction l with
  | nil => simp
  | cons a l ih =>
    rw [List.dropWhile_cons]
    cases h : p a with
    | true => simpa using ih
    | false => simp [h]
theorem trim_nil (l cs : List UInt8) : Lib.trimS l cs = [] ↔ l.all (cs.contains ·) = true := by
  unfold Lib.trimS Lib.trimLeftS Lib.trimRightS
  rw [dw_nil, List.all_reverse, dw_all, dw_nil, List.all_reverse]
theorem char_set : ∀ b : UInt8, nameC.data.toList.contains b = charB b := by
  have h : ∀ k : Fin 256, nameC.data.toList.contains (UInt8.ofNat k.val) = charB (UInt8.ofNat k.val) := by decide +kernel
  intro b
  have := h ⟨b.toNat, b.toNat_lt⟩
  simpa using this
theorem nm_empty (s : ByteArray) : (s.toList == (⟨#[]⟩ : ByteArray).toList) = s.toList.isEmpty := by
  have : (⟨#[]⟩ : ByteArray).toList = [] := by rw [ByteArray.toList_eq]
  rw [this]
  cases s.toList <;> first | rfl | simp
theorem isName_h (s : ByteArray) : Hv.ACalls Tryd.prog 29 [.lit (.string s)] (.lit (.bool (nameB s))) := by
  refine acallsC_of (rs := [.tmp 2]) ⟨[0, 2], [], [], []⟩ TOk mixed Tryd.func29 rfl rfl (by kernel_rfl) (by kernel_rfl) rfl (by simp [noId_lit]) (.lit _) ?_
  have hz : ∀ l : List UInt8, ((⟨l.toArray⟩ : ByteArray).toList == (⟨#[]⟩ : ByteArray).toList) = l.isEmpty := fun l => by rw [nm_empty, ByteArray.toList_eq]
  cases he : s.toList.isEmpty with
  | true =>
    have hn : nameB s = false := by unfold nameB; rw [he]; rfl
    have hee := nm_empty s
    rw [he] at hee
    simp only [push_cast, Nat.reduceBEq, Nat.reduceAdd, Nat.reduceEqDiff, reduceCtorEq, Nat.reduceLeDiff, Nat.reduceSub, Nat.reduceMul, Nat.reduceLT, Int.reduceEq, Int.reduceLT, Int.reduceLE, Int.reduceBEq, Int.reduceBNe, Int.reduceToNat, Int.reduceNeg, Int.reduceSub, Int.reduceAdd, hee, hn]
  | false =>
    have hee := nm_empty s
    rw [he] at hee
    by_cases hl : s.size ≤ 24
    · have hl' : (s.size : Int) ≤ 24 := by omega
      simp only [push_cast, Nat.reduceBEq, Nat.reduceAdd, Nat.reduceEqDiff, reduceCtorEq, Nat.reduceLeDiff, Nat.reduceSub, Nat.reduceMul, Nat.reduceLT, Int.reduceEq, Int.reduceLT, Int.reduceLE, Int.reduceBEq, Int.reduceBNe, Int.reduceToNat, Int.reduceNeg, Int.reduceSub, Int.reduceAdd, hee, hl']
      refine callK (trim_h s nameC (by omega) (by decide) (by
        have : ∀ b ∈ nameC.data.toList, b.toNat < 128 := by decide
        intro j b hb; exact this b (List.mem_of_getElem? hb))) ?_
      have hr : (Lib.trimS s.data.toList nameC.data.toList).isEmpty = nameB s := by
        unfold nameB
        rw [he, decide_eq_true hl]
        have e1 : s.toList = s.data.toList := by rw [ByteArray.toList_eq]
        have e2 : s.toList.all charB = s.data.toList.all (nameC.data.toList.contains ·) := by
          rw [e1]; congr 1; funext b; exact (char_set b).symm
        rw [e2, Bool.not_false, Bool.true_and, Bool.true_and]
        rw [Bool.eq_iff_iff, List.isEmpty_iff, trim_nil]
      simp only [push_cast, Nat.reduceBEq, Nat.reduceAdd, Nat.reduceEqDiff, reduceCtorEq, Nat.reduceLeDiff, Nat.reduceSub, Nat.reduceMul, Nat.reduceLT, Int.reduceEq, Int.reduceLT, Int.reduceLE, Int.reduceBEq, Int.reduceBNe, Int.reduceToNat, Int.reduceNeg, Int.reduceSub, Int.reduceAdd, hz, hr]
    · have hn : nameB s = false := by unfold nameB; rw [decide_eq_false hl]; simp
      have hl' : ¬ (s.size : Int) ≤ 24 := by omega
      simp only [push_cast, Nat.reduceBEq, Nat.reduceAdd, Nat.reduceEqDiff, reduceCtorEq, Nat.reduceLeDiff, Nat.reduceSub, Nat.reduceMul, Nat.reduceLT, Int.reduceEq, Int.reduceLT, Int.reduceLE, Int.reduceBEq, Int.reduceBNe, Int.reduceToNat, Int.reduceNeg, Int.reduceSub, Int.reduceAdd, hee, hl, hl', hn]
theorem find_h {H : Hp} {S : Nat → Prop} {n p : Nat} {L : FsL} {d : FsD} (h : FsH H S p L d) (hok : FsOk d) (s : ByteArray) :
    HCalls Tryd.prog 33 [.ptr p 0, .lit (.string s)] H n fun r H' n' => H' = H ∧ n' = n ∧ r = .tup [(match (d.find s).2 with | some i => .ptr (L.fid i) 0 | none => .lit (.pointer none)), .lit (.int .i64 (d.find s).1)] := by
  refine hcallsC_of (rs := [.tmp 4, .tmp 5]) ⟨[0, 1, 4, 5, 6, 7, 8, 11, 25], [], [], []⟩ TOk mixed Tryd.func33 rfl rfl (by kernel_rfl) (by kernel_rfl) rfl ?_
  have h0 := h.top
  have h1 := h.now
  unfold topA at h0
  unfold mapA at h1
  simp only [push_cast, Nat.reduceBEq, Nat.reduceAdd, Nat.reduceEqDiff, reduceCtorEq, Nat.reduceLeDiff, Nat.reduceSub, Nat.reduceMul, Nat.reduceLT, Int.reduceEq, Int.reduceLT, Int.reduceLE, Int.reduceBEq, Int.reduceBNe, Int.reduceToNat, Int.reduceNeg, Int.reduceSub, Int.reduceAdd, h0]
  refine callK (isName_h s) ?_
  cases hn : nameB s with
  | false =>
    have hf : d.find s = (6, none) := by unfold FsD.find; rw [hn]; rfl
    simp only [push_cast, Nat.reduceBEq, Nat.reduceAdd, Nat.reduceEqDiff, reduceCtorEq, Nat.reduceLeDiff, Nat.reduceSub, Nat.reduceMul, Nat.reduceLT, Int.reduceEq, Int.reduceLT, Int.reduceLE, Int.reduceBEq, Int.reduceBNe, Int.reduceToNat, Int.reduceNeg, Int.reduceSub, Int.reduceAdd, h0, hf]
  | true =>
    cases hl : lookE d.now.1 s with
    | none =>
      have hf : d.find s = (7, none) := by unfold FsD.find; rw [hn, hl]; rfl
      have hm := mfind_no (vA := fA L.fid) keyOk_strA hl
      simp only [strA] at hm
      simp only [push_cast, Nat.reduceBEq, Nat.reduceAdd, Nat.reduceEqDiff, reduceCtorEq, Nat.reduceLeDiff, Nat.reduceSub, Nat.reduceMul, Nat.reduceLT, Int.reduceEq, Int.reduceLT, Int.reduceLE, Int.reduceBEq, Int.reduceBNe, Int.reduceToNat, Int.reduceNeg, Int.reduceSub, Int.reduceAdd, h0, h1, hf, hm]
    | some i =>
      have hf : d.find s = (0, some i) := by unfold FsD.find; rw [hn, hl]; rfl
      obtain ⟨j, x, _, _, _, _, hm⟩ := mfind_yes (vA := fA L.fid) keyOk_strA hl
      simp only [strA, fA] at hm
      simp only [push_cast, Nat.reduceBEq, Nat.reduceAdd, Nat.reduceEqDiff, reduceCtorEq, Nat.reduceLeDiff, Nat.reduceSub, Nat.reduceMul, Nat.reduceLT, Int.reduceEq, Int.reduceLT, Int.reduceLE, Int.reduceBEq, Int.reduceBNe, Int.reduceToNat, Int.reduceNeg, Int.reduceSub, Int.reduceAdd, h0, h1, hf, hm]
/-- A call that only turns the head. -/
def TopPost (H : Hp) (n : Nat) (S : Nat → Prop) (p : Nat) (L : FsL) (d : FsD) (res : AV) (r : AV) (H' : Hp) (n' : Nat) : Prop := r = res ∧ n' = n ∧ FsH H' S p L d ∧ ∀ j, j ≠ p → H' j = H j
theorem two_upd {H : Hp} {p : Nat} {a b : Option AO} : ∀ j, j ≠ p → upd (upd H p a) p b j = H j := fun j hj => by rw [upd_other (fun e => hj e.symm), upd_other (fun e => hj e.symm)]
theorem one_upd {H : Hp} {p : Nat} {a : Option AO} : ∀ j, j ≠ p → upd H p a j = H j := fun j hj => by rw [upd_other (fun e => hj e.symm)]
theorem chg_h {H : Hp} {S : Nat → Prop} {n p : Nat} {L : FsL} {d : FsD} (h : FsH H S p L d) (hok : FsOk d) :
    HCalls Tryd.prog 34 [.ptr p 0] H n (TopPost H n S p L d.chg.1 (.lit (.int .i64 d.chg.2))) := by
  refine hcallsC_of (rs := [.tmp 2]) ⟨[0, 2, 26, 30], [], [], []⟩ TOk mixed Tryd.func34 rfl rfl (by kernel_rfl) (by kernel_rfl) rfl ?_
  have h0 := h.top
  unfold topA at h0
  cases ho : d.off with
  | true =>
    have hc : d.chg = ({ d with off := true }, 4) := by unfold FsD.chg; rw [ho]; rfl
    rw [ho] at h0
    simp only [push_cast, Nat.reduceBEq, Nat.reduceAdd, Nat.reduceEqDiff, reduceCtorEq, Nat.reduceLeDiff, Nat.reduceSub, Nat.reduceMul, Nat.reduceLT, Int.reduceEq, Int.reduceLT, Int.reduceLE, Int.reduceBEq, Int.reduceBNe, Int.reduceToNat, Int.reduceNeg, Int.reduceSub, Int.reduceAdd, h0, hc]
    refine ⟨rfl, rfl, ?_, one_upd⟩
    exact h.retop one_upd true d.armed d.left (by rw [upd_same])
  | false =>
    cases ha : d.armed with
    | false =>
      have hc : d.chg = (d, 0) := by unfold FsD.chg; rw [ho, ha]; rfl
      rw [ho, ha] at h0
      simp only [push_cast, Nat.reduceBEq, Nat.reduceAdd, Nat.reduceEqDiff, reduceCtorEq, Nat.reduceLeDiff, Nat.reduceSub, Nat.reduceMul, Nat.reduceLT, Int.reduceEq, Int.reduceLT, Int.reduceLE, Int.reduceBEq, Int.reduceBNe, Int.reduceToNat, Int.reduceNeg, Int.reduceSub, Int.reduceAdd, h0, hc]
      refine ⟨rfl, rfl, ?_, one_upd⟩
      have := h.retop (H' := upd H p _) one_upd d.off d.armed d.left (by rw [upd_same, ho, ha])
      exact this
    | true =>
      obtain ⟨hl0, hl1⟩ := hok.left ha
      rw [ho, ha] at h0
      by_cases hz : d.left = 0
      · have hzb : (d.left == 0) = true := by rw [hz]; rfl
        have hc : d.chg = ({ d with off := true }, 4) := by unfold FsD.chg; rw [ho, ha, hzb]; rfl
        simp only [push_cast, Nat.reduceBEq, Nat.reduceAdd, Nat.reduceEqDiff, reduceCtorEq, Nat.reduceLeDiff, Nat.reduceSub, Nat.reduceMul, Nat.reduceLT, Int.reduceEq, Int.reduceLT, Int.reduceLE, Int.reduceBEq, Int.reduceBNe, Int.reduceToNat, Int.reduceNeg, Int.reduceSub, Int.reduceAdd, h0, hc, hzb]
        refine ⟨rfl, rfl, ?_, one_upd⟩
        exact h.retop one_upd true d.armed d.left (by rw [upd_same, ha])
      · have hzb : (d.left == 0) = false := by simpa using hz
        have hc : d.chg = ({ d with left := d.left - 1 }, 0) := by unfold FsD.chg; rw [ho, ha, hzb]; rfl
        have hw : IntKind.i64.wrap (d.left - 1) = d.left - 1 := IntWalk.i64_in _ (by omega)
        simp only [push_cast, Nat.reduceBEq, Nat.reduceAdd, Nat.reduceEqDiff, reduceCtorEq, Nat.reduceLeDiff, Nat.reduceSub, Nat.reduceMul, Nat.reduceLT, Int.reduceEq, Int.reduceLT, Int.reduceLE, Int.reduceBEq, Int.reduceBNe, Int.reduceToNat, Int.reduceNeg, Int.reduceSub, Int.reduceAdd, h0, hc, hzb, hw]
        refine ⟨rfl, rfl, ?_, two_upd⟩
        exact h.retop two_upd d.off d.armed (d.left - 1) (by rw [upd_same, ho, ha])
theorem asks_h {H : Hp} {S : Nat → Prop} {n p : Nat} {L : FsL} {d : FsD} (h : FsH H S p L d) :
    HCalls Tryd.prog 41 [.ptr p 0] H n fun r H' n' => r = .lit (.int .i64 d.asks) ∧ H' = H ∧ n' = n := by
  refine hcallsC_of (rs := [.tmp 2]) ⟨[0, 2, 6], [], [], []⟩ TOk mixed Tryd.func41 rfl rfl (by kernel_rfl) (by kernel_rfl) rfl ?_
  have h0 := h.top
  unfold topA at h0
  cases ho : d.off with
  | true =>
    have hc : d.asks = 4 := by unfold FsD.asks; rw [ho]; rfl
    rw [ho] at h0
    simp only [push_cast, Nat.reduceBEq, Nat.reduceAdd, Nat.reduceEqDiff, reduceCtorEq, Nat.reduceLeDiff, Nat.reduceSub, Nat.reduceMul, Nat.reduceLT, Int.reduceEq, Int.reduceLT, Int.reduceLE, Int.reduceBEq, Int.reduceBNe, Int.reduceToNat, Int.reduceNeg, Int.reduceSub, Int.reduceAdd, h0, hc]
  | false =>
    have hc : d.asks = 0 := by unfold FsD.asks; rw [ho]; rfl
    rw [ho] at h0
    simp only [push_cast, Nat.reduceBEq, Nat.reduceAdd, Nat.reduceEqDiff, reduceCtorEq, Nat.reduceLeDiff, Nat.reduceSub, Nat.reduceMul, Nat.reduceLT, Int.reduceEq, Int.reduceLT, Int.reduceLE, Int.reduceBEq, Int.reduceBNe, Int.reduceToNat, Int.reduceNeg, Int.reduceSub, Int.reduceAdd, h0, hc]
theorem off_h {H : Hp} {S : Nat → Prop} {n p : Nat} {L : FsL} {d : FsD} (h : FsH H S p L d) :
    HCalls Tryd.prog 20 [.ptr p 0] H n fun r H' n' => r = .lit (.bool d.off) ∧ H' = H ∧ n' = n := by
  refine hcallsC_of (rs := [.tmp 2]) ⟨[0, 2], [], [], []⟩ TOk mixed Tryd.func20 rfl rfl (by kernel_rfl) (by kernel_rfl) rfl ?_
  have h0 := h.top
  unfold topA at h0
  simp only [push_cast, Nat.reduceBEq, Nat.reduceAdd, Nat.reduceEqDiff, reduceCtorEq, Nat.reduceLeDiff, Nat.reduceSub, Nat.reduceMul, Nat.reduceLT, Int.reduceEq, Int.reduceLT, Int.reduceLE, Int.reduceBEq, Int.reduceBNe, Int.reduceToNat, Int.reduceNeg, Int.reduceSub, Int.reduceAdd, h0]
theorem arm_h {H : Hp} {S : Nat → Prop} {n p : Nat} {L : FsL} {d : FsD} (h : FsH H S p L d) (z : Int) :
    HCalls Tryd.prog 18 [.ptr p 0, .lit (.int .i64 z)] H n (TopPost H n S p L (d.arm z) (.tup [])) := by
  refine hcallsC_of (rs := []) ⟨[0, 1, 5], [], [], []⟩ TOk mixed Tryd.func18 rfl rfl (by kernel_rfl) (by kernel_rfl) rfl ?_
  have h0 := h.top
  unfold topA at h0
  have hd : decide (z ≥ 0) = decide (0 ≤ z) := rfl
  simp only [push_cast, Nat.reduceBEq, Nat.reduceAdd, Nat.reduceEqDiff, reduceCtorEq, Nat.reduceLeDiff, Nat.reduceSub, Nat.reduceMul, Nat.reduceLT, Int.reduceEq, Int.reduceLT, Int.reduceLE, Int.reduceBEq, Int.reduceBNe, Int.reduceToNat, Int.reduceNeg, Int.reduceSub, Int.reduceAdd, h0, hd]
  refine ⟨rfl, rfl, ?_, two_upd⟩
  exact h.retop two_upd d.off (decide (0 ≤ z)) z (by rw [upd_same])
end Go.Proofs.YtjmafbdakalknaaDoor
