/- Transactions: a key as an array, and back; by the walk over a heap. -/
import Derived.Test.YtnaiaacgcjikiaaTxD
set_option linter.unusedVariables false
set_option linter.unusedSimpArgs false
namespace Go.Proofs.Ytnaiaacgcjikiaa
open Go Go.RowKit Hv
set_option maxRecDepth 20000
set_option maxHeartbeats 4000000
theorem bytesA_len (k : ByteArray) : (bytesA k).length = k.size := by unfold bytesA; rw [List.length_map, Array.length_toList]; rfl
theorem bytesA_one (k : ByteArray) : ∀ it ∈ bytesA k, it.length = 1 := fun it h => by
  unfold bytesA at h
  obtain ⟨b, _, rfl⟩ := List.mem_map.1 h
  rfl
theorem bytesA_flat (k : ByteArray) : (bytesA k).flatten = (k.data.toList.map fun b => (b.toNat : Int)).map u8A := by
  unfold bytesA
  induction k.data.toList with
  | nil => rfl
  | cons a l ih => simp only [List.map_cons, List.flatten_cons, ih]; rfl
theorem noId_name (k : ByteArray) : NoId (.agg (nameC k)) := by
  rw [noId_agg]
  intro c hc
  unfold nameC at hc
  rcases List.mem_cons.1 hc with rfl | hc
  · exact .lit _
  · obtain ⟨n, _, rfl⟩ := List.mem_map.1 hc; exact .lit _
theorem view_name (H : Hp) (k : ByteArray) : (nameC k).map (AV.view1 H) = nameC k := by
  conv => rhs; rw [← List.map_id (nameC k)]
  refine List.map_congr_left fun c hc => ?_
  unfold nameC at hc
  rcases List.mem_cons.1 hc with rfl | hc
  · rfl
  · obtain ⟨n, _, rfl⟩ := List.mem_map.1 hc; rfl
theorem one_name (k : ByteArray) : (nameC k).all AV.isOne = true := by
  rw [List.all_eq_true]
  intro c hc
  unfold nameC at hc
  rcases List.mem_cons.1 hc with rfl | hc
  · rfl
  · obtain ⟨n, _, rfl⟩ := List.mem_map.1 hc; rfl
theorem ble64 : Nat.ble 64 9223372036854775807 = true := by decide
theorem strOf_byL (l : List UInt8) : strOfNums (l.map fun b => (b.toNat : Int)) = ⟨l.toArray⟩ := by
  have h : (l.map fun b => (b.toNat : Int)).map (fun n : Int => UInt8.ofNat n.toNat) = l := by
    rw [List.map_map]
    conv => rhs; rw [← List.map_id l]
    refine List.map_congr_left fun b _ => ?_
    show UInt8.ofNat ((b.toNat : Int).toNat) = b
    rw [Int.toNat_natCast, UInt8.ofNat_toNat]
  unfold strOfNums
  rw [h]
/-- A text is its bytes. -/
theorem bytesOf_u8 : ∀ (l : List Int), bytesOf ((l.map u8A).map fun c => [c]) = some l
  | [] => rfl
  | a :: l => by
    have ih := bytesOf_u8 l
    show (match bytesOf ((l.map u8A).map fun c => [c]) with | some l => some (a :: l) | none => none) = _
    rw [ih]
theorem zName : ∃ zc : Array Value, lk? T.zeros 65 = some (.agg zc) ∧ zc.toList.map AV.lit = .lit (.int .i64 0) :: List.replicate 64 (u8A 0) := ⟨_, zeros65, rfl⟩
theorem named_h (k : Nm) : Hv.ACalls Try.prog 23 [.lit (.string k.1)] (.agg (nameC k.1)) := by
  refine acallsC_of (rs := [.cell 2 65]) ⟨[0, 2, 3], [], [], []⟩ TOk mixed Try.func23 rfl rfl (by kernel_rfl) (by kernel_rfl) rfl (by simp [noId_lit]) (noId_name _) ?_
  have hk := k.2
  obtain ⟨zc, zN_zero, hzl⟩ := zName
  have hfin : .lit (.int .i64 (k.1.size : Int)) :: ((bytesA k.1).flatten ++ List.replicate (64 - k.1.size) (u8A 0)) = nameC k.1 := by
    unfold nameC padL
    rw [List.map_append, bytesA_flat, List.map_replicate]
  have hfl : (bytesA k.1).flatten.length = k.1.size := by rw [bytesA_flat, List.length_map, List.length_map, Array.length_toList]; rfl
  have hd : ∀ x : AV, List.drop (1 + (bytesA k.1).flatten.length) (x :: List.replicate 64 (u8A 0)) = List.replicate (64 - k.1.size) (u8A 0) := fun x => by
    rw [Nat.add_comm, List.drop_succ_cons, List.drop_replicate, hfl]
  have hall : (List.replicate 64 (u8A 0)).all AV.isOne = true := by simp [u8A, AV.isOne, Value.oneCell']
  have hlen : (List.replicate 64 (u8A 0)).length = 64 := List.length_replicate
  obtain ⟨zs, hzs⟩ : ∃ zs, List.replicate 64 (u8A 0) = zs := ⟨_, rfl⟩
  rw [hzs] at hzl hall hlen
  simp only [hzs] at hd
  have hdz : zs.drop 64 = [] := List.drop_of_length_le (by omega)
  have hb1 := eq_true (bytesA_one k.1)
  have hbl := bytesA_len k.1
  have hN1 := nameC_len hk
  have hN2 := one_name k.1
  have hN3 : (nameC k.1).take 65 = nameC k.1 := List.take_of_length_le (by omega)
  have hN4 : ∀ x : AV, List.drop 65 (x :: zs) = [] := fun x => List.drop_of_length_le (by rw [List.length_cons]; omega)
  have hNd : List.drop 65 (nameC k.1) = [] := List.drop_of_length_le (by omega)
  simp only [push_cast, Nat.reduceBEq, Nat.reduceAdd, Nat.reduceEqDiff, reduceCtorEq, Nat.reduceLeDiff, Nat.reduceSub, Nat.reduceMul, Nat.reduceLT, Int.reduceEq, Int.reduceLT, Int.reduceLE, Int.reduceBEq, Int.reduceBNe, Int.reduceToNat, Int.reduceNeg, Int.reduceSub, Int.reduceAdd, zN_zero, hzl, hall, hlen, ble64, hdz, hd, hb1, hbl, hk, hN4, List.append_nil, hfin, hN1, hN2, hN3, hNd]
  exact congrArg AV.agg (view_name _ _)
theorem key_h (k : Nm) : Hv.ACalls Try.prog 20 [.agg (nameC k.1)] (.lit (.string k.1)) := by
  refine acallsC_of (rs := [.tmp 2]) ⟨[0, 1, 2], [], [], []⟩ TOk mixed Try.func20 rfl rfl (by kernel_rfl) (by kernel_rfl) rfl (by simp [noId_name]) (.lit _) ?_
  have hk := k.2
  have hN1 := nameC_len hk
  have hN2 := one_name k.1
  obtain ⟨N, hN⟩ : ∃ N, (padL k.1).map u8A = N := ⟨_, rfl⟩
  unfold nameC at *
  rw [hN] at hN1 hN2
  have hk' : (k.1.size : Int) ≤ 64 := by omega
  have hk3 : ((k.1.size : Int) - 0).toNat = k.1.size := by omega
  have hb : Nat.ble (1 + k.1.size) (N.length + 1) = true := by rw [Nat.ble_eq, ← hN, List.length_map, padL_len hk]; omega
  have hbs : bytesOf ((N.take k.1.size).map fun c => [c]) = some (k.1.data.toList.map fun b => (b.toNat : Int)) := by
    rw [← hN, ← List.map_take]
    have : (padL k.1).take k.1.size = k.1.data.toList.map fun b => (b.toNat : Int) := by
      unfold padL
      exact List.take_left' (by rw [List.length_map, Array.length_toList]; rfl)
    rw [this]
    exact bytesOf_u8 _
  have hst : strOfNums (k.1.data.toList.map fun b => (b.toNat : Int)) = k.1 := (strOf_byL _).trans (by cases k.1; rfl)
  simp only [push_cast, Nat.reduceBEq, Nat.reduceAdd, Nat.reduceEqDiff, reduceCtorEq, Nat.reduceLeDiff, Nat.reduceSub, Nat.reduceMul, Nat.reduceLT, Int.reduceEq, Int.reduceLT, Int.reduceLE, Int.reduceBEq, Int.reduceBNe, Int.reduceToNat, Int.reduceNeg, Int.reduceSub, Int.reduceAdd, hN, hN2, ble64, hk', hk3, hb, hbs, hst]
end Go.Proofs.Ytnaiaacgcjikiaa
