/- Pools: a new one; by the walk over a heap. -/
import Derived.Test.YtndojmpgadbefaaEpF
set_option linter.unusedVariables false
set_option linter.unusedSimpArgs false
namespace Go.Proofs.Ytndojmpgadbefaa
open Go Go.RowKit Hv
set_option maxRecDepth 20000
set_option maxHeartbeats 4000000
def poolZ (size K : Nat) : PoolD := ⟨size, List.replicate K (List.replicate size 0), List.replicate K false, List.replicate 256 landZ⟩
def landsZ : List AV := landsC (List.replicate 256 landZ) (List.replicate 256 nilV)
theorem landsZ_all : landsZ.all AV.isOne = true := by decide +kernel
theorem landsZ_len : landsZ.length = 1024 := by decide +kernel
theorem bz97_cells : Hv.bz97.cells.toList.map AV.lit = AV.lit (.int .i64 0) :: .lit (.slice none 0 0) :: .lit (.slice none 0 0) :: landsZ := by kernel_rfl
theorem poolZ_ok {size K : Nat} (hs : 64 ≤ size ∧ size ≤ 65536) (hK : K ≤ 4096) : PoolOk (poolZ size K) := by
  refine ⟨hs, by simp [poolZ, hK], fun b hb => ?_, by simp [poolZ], by simp [poolZ], fun l hl => ?_⟩
  · rw [List.eq_of_mem_replicate hb]; simp [poolZ]
  · rw [List.eq_of_mem_replicate hl]; simp [landZ]
section
variable {H : Hp} {n : Nat}
theorem newPool_c {size K : Nat} (hs : 64 ≤ size ∧ size ≤ 65536) (h8 : size % 8 = 0) (hK : 1 ≤ K ∧ K ≤ 4096) (hm : size * K ≤ 4194304) :
    HCalls Try.prog 16 [.lit (.int .i64 (size : Int)), .lit (.int .i64 (K : Int))] H n fun r H' n' => ∃ p S, r = .tup [.ptr p 0, .lit (.int .i64 0)] ∧ Pool H' n' S p (poolZ size K) ∧ n ≤ n' ∧ (∀ j, S j → n ≤ j) ∧ ∀ j, j < n → H' j = H j := by
  refine hcallsC_of (rs := [.tmp 4, .tmp 5]) ⟨[0, 1, 4, 5, 6, 31, 37, 38, 39], [34,46], [], [(6, [(0, [], []), (1, [], []), (2, [], []), (3, [], []), (4, [], []), (5, [6], []), (6, [4], [5]), (7, [], []), (8, [], [4, 7, 3, 6, 2, 5, 1]), (9, [], []), (10, [], []), (11, [], [10, 8, 0, 1, 2, 3, 4, 5, 6, 7, 9])])], []⟩ TOk mixed Try.func16 rfl rfl (by kernel_rfl) (by kernel_rfl) rfl ?_
  have g1 : ¬ (size : Int) < 64 := by omega
  have g2 : ¬ (size : Int) > 65536 := by omega
  have g2' : ¬ (65536 : Int) < (size : Int) := by omega
  have hmod : (size : Int).tmod 8 = 0 := by rw [show (8 : Int) = ((8 : Nat) : Int) from rfl, ← Int.ofNat_tmod, h8]; rfl
  have g3 : ¬ (K : Int) < 1 := by omega
  have g4 : ¬ (K : Int) > 4096 := by omega
  have g4' : ¬ (4096 : Int) < (K : Int) := by omega
  have wm : IntKind.i64.wrap ((size : Int) * (K : Int)) = ((size * K : Nat) : Int) := by rw [← Int.natCast_mul]; exact IntWalk.i64_in _ (by omega)
  have g5 : ¬ ((size * K : Nat) : Int) > 4194304 := by omega
  obtain ⟨X, hX⟩ : ∃ X, size * K = X := ⟨_, rfl⟩
  rw [hX] at wm g5
  have q1 : (K : Int) ≤ 140737488355328 := by omega
  have q2 : 1 * (K : Int) ≤ 140737488355328 := by omega
  have ha := landsZ_all
  have hl := landsZ_len
  have hc := bz97_cells
  simp only [Value.cells] at hc
  simp only [push_cast, Nat.reduceBEq, Nat.reduceAdd, Nat.reduceEqDiff, reduceCtorEq, Nat.reduceLeDiff, Nat.reduceSub, Nat.reduceMul, Nat.reduceLT, Int.reduceEq, Int.reduceLT, Int.reduceLE, Int.reduceBEq, Int.reduceBNe, Int.reduceToNat, Int.reduceNeg, Int.reduceSub, Int.reduceAdd, g1, g2, g2', g3, g4, g4', g5, hmod, wm, q1, q2, hc, ha, hl]
  refine loopK (fun q s => ∃ (k n1 : Nat) (H1 : Hp) (V : AV) (sb : List Nat), s = ⟨[(0, .lit (.int .i64 (size : Int))), (1, .lit (.int .i64 (K : Int))), (6, .ptr (n + 1) 0), (37, .lit (.int .i64 (K : Int))), (38, .lit (.int .i64 (k : Int)))], H1, n1⟩ ∧ k ≤ K ∧ q = K - k ∧ n + 1 < n1 ∧
      H1 n = some (.row true 4 (List.replicate K [.lit (.bool false)])) ∧ H1 (n + 1) = some (.cells (.lit (.int .i64 (size : Int)) :: V :: .rw n 1 0 K :: landsZ)) ∧ sb.length = k ∧ sb.Nodup ∧ (∀ x ∈ sb, n ≤ x ∧ x < n1 ∧ H1 x = some (.row true 5 (List.replicate size [.lit (.int .u8 0)]))) ∧
      ((V = nilV ∧ k = 0) ∨ ∃ g, V = .rw g 1 0 k ∧ n ≤ g ∧ g < n1 ∧ H1 g = some (.row false 47 (sb.map (slabI size)))) ∧ ∀ j, j < n → H1 j = H j) _ [0, 1, 6, 37, 38]
    ⟨0, n + 1 + 1, (upd (upd H n (some (.row true 4 (List.replicate K [.lit (.bool false)])))) (n + 1) (some (.cells (.lit (.int .i64 (size : Int)) :: .lit (.slice none 0 0) :: .rw n 1 0 K :: landsZ)))), nilV, [], rfl, Nat.zero_le _, rfl, by omega, by rw [upd_other (by omega), upd_same], upd_same _ _ _, rfl, List.nodup_nil, fun x hx => absurd hx List.not_mem_nil, .inl ⟨rfl, rfl⟩, fun j hj => by rw [upd_other (by omega), upd_other (by omega)]⟩ ?_
  rintro q _ ⟨k, n1, H1, V, sb, rfl, hk, rfl, hn1, hgt, hp, hsl, hnd, hsb, hV, hfr⟩
  by_cases hkK : k < K
  · have hkK' : (k : Int) < (K : Int) := by omega
    have hwk := wrap_nat0 (k := k) (by omega)
    have q3 : (size : Int) ≤ 140737488355328 := by omega
    have q4 : 1 * (size : Int) ≤ 140737488355328 := by omega
    have c1 : (n1 == n + 1) = false := nb (by omega)
    have c2 : (n1 + 1 == n + 1) = false := nb (by omega)
    have c3 : (n1 + 1 + 1 == n + 1) = false := nb (by omega)
    have c4 : (n1 + 1 + 1 == n1 + 1) = false := nb (by omega)
    have c5 : (n1 + 1 == n1) = false := nb (by omega)
    rcases hV with ⟨hV, hk0⟩ | ⟨g, hV, hg1, hg2, hgr⟩
    · subst hV hk0
      unfold nilV at hp
      have w1 : IntKind.i64.wrap 1 = 1 := by rfl
      have hK0 : (0 : Int) < (K : Int) := by omega
      simp only [push_cast, Nat.reduceBEq, Nat.reduceAdd, Nat.reduceEqDiff, reduceCtorEq, Nat.reduceLeDiff, Nat.reduceSub, Nat.reduceMul, Nat.reduceLT, Int.reduceEq, Int.reduceLT, Int.reduceLE, Int.reduceBEq, Int.reduceBNe, Int.reduceToNat, Int.reduceNeg, Int.reduceSub, Int.reduceAdd, hK0, hp, w1, q3, q4, c1, c2, c3, c4, c5, hl]
      have hsb0 : sb = [] := List.length_eq_zero_iff.1 hsl
      subst hsb0
      refine ⟨_, by omega, 1, n1 + 1 + 1, _, .rw (n1 + 1) 1 0 1, [n1], rfl, by omega, rfl, by omega, ?_, upd_same _ _ _, rfl, by simp, fun x hx => ?_, .inr ⟨n1 + 1, rfl, by omega, by omega, ?_⟩, fun j hj => ?_⟩
      · rw [upd_other (by omega), upd_other (by omega), upd_other (by omega)]; exact hgt
      · obtain rfl := List.mem_singleton.1 hx
        exact ⟨by omega, by omega, by rw [upd_other (by omega), upd_other (by omega), upd_same]⟩
      · rw [upd_other (by omega), upd_same]; rfl
      · rw [upd_other (by omega), upd_other (by omega), upd_other (by omega)]; exact hfr j hj
    · subst hV
      have hgp : g ≠ n + 1 := heap_ne hgr hp (by intro e; cases e)
      have hgn : g ≠ n := heap_ne hgr hgt (by intro e; cases e)
      have c6 : (n1 == g) = false := nb (by omega)
      have c7 : (n1 + 1 == g) = false := nb (by omega)
      have c8 : (g == n + 1) = false := nb hgp
      have c9 : (g == n1 + 1) = false := nb (by omega)
      have q5 : (k + 1) * 24 ≤ 140737488355328 := by omega
      simp only [push_cast, Nat.reduceBEq, Nat.reduceAdd, Nat.reduceEqDiff, reduceCtorEq, Nat.reduceLeDiff, Nat.reduceSub, Nat.reduceMul, Nat.reduceLT, Int.reduceEq, Int.reduceLT, Int.reduceLE, Int.reduceBEq, Int.reduceBNe, Int.reduceToNat, Int.reduceNeg, Int.reduceSub, Int.reduceAdd, hkK', hp, hwk, q3, q4, c1, c2, c3, c4, c5, c6, c7, c8, c9, hgr, hsl, hl, q5]
      refine ⟨_, by omega, k + 1, n1 + 1 + 1, _, .rw (n1 + 1) 1 0 (k + 1), sb ++ [n1], rfl, by omega, rfl, by omega, ?_, upd_same _ _ _, by simp [hsl], ?_, fun x hx => ?_, .inr ⟨n1 + 1, rfl, by omega, by omega, ?_⟩, fun j hj => ?_⟩
      · rw [upd_other (by omega), upd_other (by omega), upd_other hgn, upd_other (by omega)]; exact hgt
      · rw [List.nodup_append]
        refine ⟨hnd, by simp, fun x hx y hy => ?_⟩
        rw [List.mem_singleton.1 hy]
        have := (hsb x hx).2.1
        omega
      · rcases List.mem_append.1 hx with hx | hx
        · obtain ⟨a1, a2, a3⟩ := hsb x hx
          have e1 : x ≠ g := heap_ne a3 hgr (by intro e; cases e)
          have e2 : x ≠ n + 1 := heap_ne a3 hp (by intro e; cases e)
          exact ⟨a1, by omega, by rw [upd_other (Ne.symm e2), upd_other (by omega), upd_other (Ne.symm e1), upd_other (by omega)]; exact a3⟩
        · obtain rfl := List.mem_singleton.1 hx
          exact ⟨by omega, by omega, by rw [upd_other (by omega), upd_other (by omega), upd_other (by omega), upd_same]⟩
      · rw [upd_other (by omega), upd_same, List.map_append]; rfl
      · rw [upd_other (by omega), upd_other (by omega), upd_other (by omega), upd_other (by omega)]; exact hfr j hj
  · have hke : k = K := by omega
    subst hke
    simp only [push_cast, Nat.reduceBEq, Nat.reduceAdd, Nat.reduceEqDiff, reduceCtorEq, Nat.reduceLeDiff, Nat.reduceSub, Nat.reduceMul, Nat.reduceLT, Int.reduceEq, Int.reduceLT, Int.reduceLE, Int.reduceBEq, Int.reduceBNe, Int.reduceToNat, Int.reduceNeg, Int.reduceSub, Int.reduceAdd, hkK, show ¬ (k : Int) < (k : Int) by omega]
    rcases hV with ⟨hV, hk0⟩ | ⟨g, hV, hg1, hg2, hgr⟩
    · omega
    · subst hV
      refine ⟨n + 1, fun j => n ≤ j ∧ j < n1, rfl, ⟨⟨g, n, sb, List.replicate 256 nilV⟩, ⟨?_, hgr, ?_, fun j x b h1 h2 => ?_, by simp, by show sb.length = (List.replicate k _).length; rw [hsl, List.length_replicate], fun i l v h1 h2 => ?_, hnd, fun i j g' a b h1 h2 => ?_, ⟨⟨by omega, by omega⟩, ⟨hg1, hg2⟩, ⟨Nat.le_refl n, (by omega : n < n1)⟩⟩, fun j hj => hj.2, poolZ_ok hs hK.2⟩⟩, by omega, fun j hj => hj.1, hfr⟩
      · rw [hp]
        show some (AO.cells (_ :: AV.rw g 1 0 k :: AV.rw n 1 0 k :: landsZ)) = some (AO.cells (_ :: AV.rw g 1 0 (List.replicate k _).length :: AV.rw n 1 0 (List.replicate k _).length :: _))
        rw [List.length_replicate]; rfl
      · rw [hgt]
        show _ = some (AO.row true _ ((List.replicate k false).map boolI))
        rw [List.map_replicate]; rfl
      · have hx := hsb x (List.mem_of_getElem? h1)
        have hb := List.eq_of_mem_replicate (List.mem_of_getElem? h2)
        subst hb
        refine ⟨?_, hx.1, hx.2.1⟩
        rw [hx.2.2, List.map_replicate]; rfl
      · have hl0 := List.eq_of_mem_replicate (List.mem_of_getElem? h1)
        have hv0 := List.eq_of_mem_replicate (List.mem_of_getElem? h2)
        subst hl0 hv0
        exact .inl ⟨rfl, rfl⟩
      · have hv0 := List.eq_of_mem_replicate (List.mem_of_getElem? h1)
        cases hv0
end
end Go.Proofs.Ytndojmpgadbefaa
