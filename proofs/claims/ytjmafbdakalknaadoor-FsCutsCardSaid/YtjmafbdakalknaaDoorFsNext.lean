/- Files that a crash may cut: the next pick, by the walk over a heap. -/
import Derived.Test.YtjmafbdakalknaaDoorFsRen
set_option linter.unusedVariables false
set_option linter.unusedSimpArgs false
namespace Go.Proofs.YtjmafbdakalknaaDoor
open Go Go.RowKit Hv
set_option maxRecDepth 20000
set_option maxHeartbeats 4000000
def intI (z : Int) : List AV := [.lit (.int .i64 z)]
/-- What is left of the picks. -/
def PicksIs (H : Hp) (N : Nat) (c : AV) (l : List Int) : Prop := (c = .lit (.slice none 0 0) ∧ l = []) ∨ c = .sl (l.map intI) ∨ ∃ (g : Nat) (items : List Int) (ko : Nat), c = .rw g 1 ko l.length ∧ g < N ∧ H g = some (.row false 3 (items.map intI)) ∧ items.drop ko = l ∧ ko + l.length ≤ items.length
theorem PicksIs.keep {H H' : Hp} {N : Nat} {c : AV} {l : List Int} (h : PicksIs H N c l) (hh : ∀ g its, g < N → H g = some (.row false 3 its) → H' g = some (.row false 3 its)) : PicksIs H' N c l := by
  rcases h with h | h | ⟨g, items, ko, h1, hN, h2, h3⟩
  · exact .inl h
  · exact .inr (.inl h)
  · exact .inr (.inr ⟨g, items, ko, h1, hN, hh _ _ hN h2, h3⟩)
theorem PicksIs.one {H : Hp} {N : Nat} {c : AV} {l : List Int} (h : PicksIs H N c l) : AV.isOne c = true := by
  rcases h with ⟨rfl, _⟩ | rfl | ⟨g, items, ko, rfl, _⟩ <;> rfl
theorem next_h {H : Hp} {n b N : Nat} {c : AV} {l : List Int} (hb : H b = some (.cells [c])) (hc : PicksIs H N c l) :
    HCalls Tryd.prog 38 [.ptr b 0] H n fun r H' n' => r = .lit (.int .u64 ((FsD.next l).1 : Int)) ∧ n = n' ∧ (∃ c', H' b = some (.cells [c']) ∧ PicksIs H' N c' (FsD.next l).2) ∧ ∀ j, j ≠ b → H' j = H j := by
  refine hcallsC_of (rs := [.tmp 1]) ⟨[0, 1, 2, 5], [], [], []⟩ TOk mixed Tryd.func38 rfl rfl (by kernel_rfl) (by kernel_rfl) rfl ?_
  have hu0 : ∀ z, ((IntKind.u64.wrap z).toNat : Int) = IntKind.u64.wrap z := fun z => by
    have : 0 ≤ IntKind.u64.wrap z := by
      simp only [IntKind.wrap, IntKind.signed, IntKind.bits]
      have := Int.emod_nonneg z (show (2 : Int) ^ 64 ≠ 0 by decide)
      simpa using this
    omega
  rcases hc with ⟨rfl, rfl⟩ | rfl | ⟨g, items, ko, rfl, hgN, hrow, hdr, hle⟩
  · simp only [push_cast, Nat.reduceBEq, Nat.reduceAdd, Nat.reduceEqDiff, reduceCtorEq, Nat.reduceLeDiff, Nat.reduceSub, Nat.reduceMul, Nat.reduceLT, Int.reduceEq, Int.reduceLT, Int.reduceLE, Int.reduceBEq, Int.reduceBNe, Int.reduceToNat, Int.reduceNeg, Int.reduceSub, Int.reduceAdd, hb, FsD.next]
    exact ⟨_, rfl, .inl ⟨rfl, rfl⟩⟩
  · cases l with
    | nil =>
      simp only [push_cast, Nat.reduceBEq, Nat.reduceAdd, Nat.reduceEqDiff, reduceCtorEq, Nat.reduceLeDiff, Nat.reduceSub, Nat.reduceMul, Nat.reduceLT, Int.reduceEq, Int.reduceLT, Int.reduceLE, Int.reduceBEq, Int.reduceBNe, Int.reduceToNat, Int.reduceNeg, Int.reduceSub, Int.reduceAdd, hb, FsD.next]
      exact ⟨_, rfl, .inr (.inl rfl)⟩
    | cons z l =>
      have hl : ((l.length : Int) + 1 == 0) = false := by rw [beq_eq_false_iff_ne]; omega
      have hal : (∀ j : Int, j ∈ l → (intI j).length = 1) = True := eq_true fun _ _ => rfl
      have c1 : (1 : Int) ≤ (l.length : Int) + 1 := by omega
      have ht : ((l.length : Int) + 1).toNat = l.length + 1 := by omega
      have hi1 : (intI z).length = 1 := rfl
      simp only [push_cast, Nat.reduceBEq, Nat.reduceAdd, Nat.reduceEqDiff, reduceCtorEq, Nat.reduceLeDiff, Nat.reduceSub, Nat.reduceMul, Nat.reduceLT, Int.reduceEq, Int.reduceLT, Int.reduceLE, Int.reduceBEq, Int.reduceBNe, Int.reduceToNat, Int.reduceNeg, Int.reduceSub, Int.reduceAdd, hb, FsD.next, hl, hal, c1, ht, hi1, intI]
      refine ⟨by rw [hu0], ⟨_, rfl, .inr (.inl rfl)⟩, fun j hj => by rw [nb (fun e => hj e.symm)]; rfl⟩
  · cases l with
    | nil =>
      simp only [push_cast, Nat.reduceBEq, Nat.reduceAdd, Nat.reduceEqDiff, reduceCtorEq, Nat.reduceLeDiff, Nat.reduceSub, Nat.reduceMul, Nat.reduceLT, Int.reduceEq, Int.reduceLT, Int.reduceLE, Int.reduceBEq, Int.reduceBNe, Int.reduceToNat, Int.reduceNeg, Int.reduceSub, Int.reduceAdd, hb, FsD.next]
      exact ⟨_, rfl, .inr (.inr ⟨g, items, ko, rfl, hgN, hrow, hdr, hle⟩)⟩
    | cons z l =>
      rw [List.length_cons] at hle
      have hl : ((l.length : Int) + 1 == 0) = false := by rw [beq_eq_false_iff_ne]; omega
      have c1 : (1 : Int) ≤ (l.length : Int) + 1 := by omega
      have ht : ((l.length : Int) + 1 - 1).toNat = l.length := by omega
      have hz : items[ko]? = some z := by
        have : (items.drop ko)[0]? = some z := by rw [hdr]; rfl
        rwa [List.getElem?_drop, Nat.add_zero] at this
      have hpos : (0 : Int) < (l.length : Int) + 1 := by omega
      cases ko with
      | zero =>
        have hbl : Nat.ble (l.length + 1) items.length = true := by rw [Nat.ble_eq]; omega
        have hz' : (items.take (l.length + 1))[0]? = some z := by rw [List.getElem?_take_of_lt (by omega)]; exact hz
        have htk : List.take (l.length + 1) (items.map intI) = (items.take (l.length + 1)).map intI := List.map_take.symm
        simp only [push_cast, Nat.reduceBEq, Nat.reduceAdd, Nat.reduceEqDiff, reduceCtorEq, Nat.reduceLeDiff, Nat.reduceSub, Nat.reduceMul, Nat.reduceLT, Int.reduceEq, Int.reduceLT, Int.reduceLE, Int.reduceBEq, Int.reduceBNe, Int.reduceToNat, Int.reduceNeg, Int.reduceSub, Int.reduceAdd, hb, hrow, FsD.next, hl, c1, ht, hpos, hbl, htk, hz', intI]
        refine ⟨by rw [hu0], ⟨_, rfl, .inr (.inr ⟨g, items, 1, rfl, hgN, ?_, ?_, by omega⟩)⟩, fun j hj => by rw [nb (fun e => hj e.symm)]; rfl⟩
        · rw [upd_other (fun e => by rw [e, hrow] at hb; cases hb)]; exact hrow
        · have : items.drop (0 + 1) = (items.drop 0).drop 1 := by rw [List.drop_drop]
          rw [← Nat.zero_add 1, this, hdr]; rfl
      | succ ko =>
        have hk0 : (ko + 1 == 0) = false := by simp
        have hbl : Nat.ble (ko + 1 + (l.length + 1)) items.length = true := by rw [Nat.ble_eq]; omega
        have hhd : headLen (items.map intI) = 1 := by
          cases items with
          | nil => simp at hz
          | cons a its => rfl
        simp only [headLen] at hhd
        have htk : List.take (l.length + 1) (List.drop (ko + 1) (items.map intI)) = ((items.drop (ko + 1)).take (l.length + 1)).map intI := by rw [List.map_take, List.map_drop]
        have hz' : ((items.drop (ko + 1)).take (l.length + 1))[0]? = some z := by rw [List.getElem?_take_of_lt (by omega), hdr]; rfl
        simp only [push_cast, Nat.reduceBEq, Nat.reduceAdd, Nat.reduceEqDiff, reduceCtorEq, Nat.reduceLeDiff, Nat.reduceSub, Nat.reduceMul, Nat.reduceLT, Int.reduceEq, Int.reduceLT, Int.reduceLE, Int.reduceBEq, Int.reduceBNe, Int.reduceToNat, Int.reduceNeg, Int.reduceSub, Int.reduceAdd, hb, hrow, FsD.next, hl, c1, ht, hpos, hk0, hbl, hhd, htk, hz', intI]
        refine ⟨by rw [hu0], ⟨_, rfl, .inr (.inr ⟨g, items, ko + 1 + 1, rfl, hgN, ?_, ?_, by omega⟩)⟩, fun j hj => by rw [nb (fun e => hj e.symm)]; rfl⟩
        · rw [upd_other (fun e => by rw [e, hrow] at hb; cases hb)]; exact hrow
        · have : items.drop (ko + 1 + 1) = (items.drop (ko + 1)).drop 1 := by rw [List.drop_drop]
          rw [this, hdr]; rfl
end Go.Proofs.YtjmafbdakalknaaDoor
