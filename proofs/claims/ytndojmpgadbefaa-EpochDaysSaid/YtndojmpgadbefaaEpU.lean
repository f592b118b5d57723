/- Epochs: the first one; by the walk over a heap. -/
import Derived.Test.YtndojmpgadbefaaEpT
set_option linter.unusedVariables false
set_option linter.unusedSimpArgs false
namespace Go.Proofs.Ytndojmpgadbefaa
open Go Go.RowKit Hv
set_option maxRecDepth 20000
set_option maxHeartbeats 4000000
def epZ (d : PoolD) : EpD := ⟨d, 0, 0, 1, [], [], 0⟩
theorem epZ_ok (d : PoolD) : EpOk (epZ d) :=
  ⟨rfl, ⟨Nat.le_refl _, .inl rfl⟩, Nat.zero_le _, Nat.zero_le _, fun x hx => absurd hx List.not_mem_nil, fun x hx => absurd hx List.not_mem_nil, Nat.zero_le _, fun x hx => absurd hx List.not_mem_nil, List.nodup_nil, fun x hx => absurd hx List.not_mem_nil⟩
section
variable {H : Hp} {n p : Nat} {S : Nat → Prop} {d : PoolD}
theorem newEp_c (h : Pool H n S p d) {l : LandD} (hl : d.lands[0]? = some l) (hf : l.there = false) (hg : l.gen ≤ 1000000000) :
    HCalls Try.prog 8 [.ptr p 0] H n fun r H' n' => ∃ e S', r = .tup [.ptr e 0, .lit (.int .i64 0)] ∧ Ep H' n' S' e p ((epZ d).adv 0 l) ∧ n ≤ n' ∧ ∀ j, j < n → ¬ S j → H' j = H j ∧ ¬ S' j := by
  refine hcallsC_of (rs := [.tmp 2, .tmp 3]) ⟨[0, 2, 3, 4, 6, 8, 20], [], [], [], []⟩ TOk mixed Try.func8 rfl rfl (by kernel_rfl) (by kernel_rfl) rfl ?_
  have hlt := h.lt
  simp only [push_cast, Nat.reduceBEq, Nat.reduceAdd, Nat.reduceEqDiff, reduceCtorEq, Nat.reduceLeDiff, Nat.reduceSub, Nat.reduceMul, Nat.reduceLT, Int.reduceEq, Int.reduceLT, Int.reduceLE, Int.reduceBEq, Int.reduceBNe, Int.reduceToNat, Int.reduceNeg, Int.reduceSub, Int.reduceAdd]
  have hE : EpH (upd (upd (upd H n (some (.map [] 0))) (n + 1) (some (.map [] 0))) (n + 1 + 1) (some (.cells [.ptr p 0, .lit (.int .i64 0), .mp n, .mp (n + 1), .lit (.int .i64 0), .lit (.bool false)]))) (n + 1 + 1 + 1) (fun j => S j ∨ n ≤ j ∧ j < n + 3) (n + 1 + 1) ⟨p, n, n + 1, [], [], 0⟩ (epZ d) :=
    ⟨upd_same _ _ _, ⟨S, h.frame (by omega) fun j hj => (by have := hlt j hj; rw [upd_other (by omega), upd_other (by omega), upd_other (by omega)]), fun j hj => .inl hj, fun hs => by have := hlt _ hs; omega, fun hs => by have := hlt _ hs; dsimp only at this; omega, fun hs => by have := hlt _ hs; dsimp only at this; omega, fun x hx => absurd hx List.not_mem_nil⟩,
     by rw [upd_other (by show n + 1 + 1 ≠ n; omega), upd_other (by show n + 1 ≠ n; omega), upd_same]; rfl, MapOk.nil, by rw [upd_other (by show n + 1 + 1 ≠ n + 1; omega), upd_same]; rfl, MapOk.nil, fun i x r h1 h2 => by simp at h1, ⟨rfl, rfl⟩, fun i en h1 => by simp at h1, ⟨List.nodup_nil, List.nodup_nil⟩,
     ⟨.inr (by omega), .inr (by dsimp only; omega), .inr (by dsimp only; omega), fun x hx => absurd hx List.not_mem_nil⟩, ⟨by dsimp only; omega, fun x hx => absurd hx List.not_mem_nil⟩, fun j hj => by
      rcases hj with hj | hj
      · have := hlt j hj; omega
      · omega, epZ_ok d⟩
  refine callH (advance_c hE (i := 0) hl hf (fun j l hj => absurd hj (by omega)) hg (by show 0 < _; decide)) ?_
  rintro _ H5 n5 ⟨rfl, S5, h5, hn5, k5⟩
  simp only [push_cast, Nat.reduceBEq, Nat.reduceAdd, Nat.reduceEqDiff, reduceCtorEq, Nat.reduceLeDiff, Nat.reduceSub, Nat.reduceMul, Nat.reduceLT, Int.reduceEq, Int.reduceLT, Int.reduceLE, Int.reduceBEq, Int.reduceBNe, Int.reduceToNat, Int.reduceNeg, Int.reduceSub, Int.reduceAdd]
  refine ⟨n + 1 + 1, S5, rfl, h5, by omega, fun j hj hs => ?_⟩
  obtain ⟨q1, q2⟩ := k5 j (by omega) (fun x => by
    rcases x with x | x
    · exact hs x
    · omega)
  exact ⟨q1.trans (by rw [upd_other (by omega), upd_other (by omega), upd_other (by omega)]), q2⟩
end
end Go.Proofs.Ytndojmpgadbefaa
