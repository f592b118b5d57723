/- Edit: Files, by the walk over a heap. -/
import Derived.Test.YtheanmfdfoefoaaEdApply
import Derived.Ground.SlgmProg
set_option linter.unusedVariables false
namespace Go.Proofs.Ytheanmfdfoefoaa
open Go Go.RowKit Go.Shelf Hv
set_option linter.unusedSimpArgs false

shelf_lay_g SlLaysM.n5 Slgm 5 at Try 63 as Try.sortI
def intH (z : Int) : List AV := [.lit (.int .i64 z)]
theorem intH_enc (z : Int) : encA intE z = intH z := rfl
theorem noId_ints (l : List Int) : NoId (.sl (l.map intH)) := by simp [noId_sl, intH, noId_lit]
def sortZ (l : List Int) : List Int := l.mergeSort fun x y => decide (x ≤ y)
theorem sortZ_perm (l : List Int) : (sortZ l).Perm l := List.mergeSort_perm l _
theorem sortZ_sorted (l : List Int) : (sortZ l).Pairwise fun x y => x ≤ y := by
  have h := List.pairwise_mergeSort (le := fun x y : Int => decide (x ≤ y)) (fun _ _ _ h1 h2 => by simp at *; omega) (fun _ _ => by simp; omega) l
  exact h.imp fun h => by simpa using h
theorem sortZ_uniq {l l' : List Int} (hp : l.Perm l') (hs : l.Pairwise fun x y => x ≤ y) : l = sortZ l' :=
  (hp.trans (sortZ_perm l').symm).eq_of_pairwise (fun a b _ _ h1 h2 => Int.le_antisymm h1 h2) hs (sortZ_sorted l')
theorem sortZ_congr {l l' : List Int} (hp : l.Perm l') : sortZ l = sortZ l' := sortZ_uniq ((sortZ_perm l).trans hp) (sortZ_sorted l)
def filesS (s : StD) : List Int := sortZ ((allS s).map (·.file))
theorem sortI_h {H : Hp} {n id : Nat} {l : List Int} (ho : H id = some (.row true 3 (l.map intH))) (hl : l.length ≤ 1000000) :
    HCalls Try.prog 63 [.rw id 1 0 l.length] H n fun r H' n' => r = .tup [] ∧ n' = n ∧ H' = upd H id (some (.row true 3 ((sortZ l).map intH))) :=
  sortInt_hc Try.sortI (by kernel_rfl) ho (by unfold szOf; kernel_rfl) (by omega)
theorem rel_files {es : List PlM} {s : StD} (h : Rel es s) : (es.map fun x => x.key.file).Perm ((allS s).map (·.file)) := by
  have h1 := h.map (fun x : PlD × MetaD => x.1.file)
  rw [List.map_map] at h1
  refine h1.trans ?_
  unfold placed
  rw [placedTo_files]
  simp [allS, List.range_succ]
set_option maxRecDepth 20000 in
set_option maxHeartbeats 8000000 in
theorem files_h (s : StD) (hf : ((allS s).map (·.file)).Nodup) (hl : ∀ i, i < 4 → (s.lv i).length ≤ 100000) : Hv.ACalls Try.prog 32 [stH s] (.sl ((filesS s).map intH)) := by
  refine acallsC_of (rs := [.tmp 2]) ⟨[0, 1, 2, 3, 4, 7, 9], [3], [], [], [], []⟩ TOk mixed Try.func32 rfl rfl (by kernel_rfl) (by kernel_rfl) rfl (nid1 (noId_st s)) (noId_ints _) ?_
  simp only [push_cast, Nat.reduceBEq, Nat.reduceAdd, Nat.reduceEqDiff, reduceCtorEq, Nat.reduceLeDiff, Nat.reduceSub, Nat.reduceMul, Nat.reduceLT, Int.reduceEq, Int.reduceLT, Int.reduceLE, Int.reduceBEq, Int.reduceBNe, Int.reduceToNat, Int.reduceNeg, Int.reduceSub, Int.reduceAdd, stH]
  refine callH (all_h s (placed_files hf) (fun i hi => Nat.le_trans (hl i hi) (by omega))) ?_
  rintro _ H2 n2 ⟨id, es, clock, rfl, hid1, hid2, hmap, hmo, hrel, hold⟩
  dsimp only at hid1 hold
  have hrow := hold 2 (by omega)
  simp only [push_cast, Nat.reduceBEq, Nat.reduceAdd, Nat.reduceEqDiff, reduceCtorEq, Nat.reduceLeDiff, Nat.reduceSub, Nat.reduceMul, Nat.reduceLT, Int.reduceEq, Int.reduceLT, Int.reduceLE, Int.reduceBEq, Int.reduceBNe, Int.reduceToNat, Int.reduceNeg, Int.reduceSub, Int.reduceAdd] at hrow
  have hel : es.length ≤ 400000 := by
    rw [hrel.count]
    unfold countS
    have := hl 0 (by omega); have := hl 1 (by omega); have := hl 2 (by omega); have := hl 3 (by omega)
    omega
  simp only [push_cast, Nat.reduceBEq, Nat.reduceAdd, Nat.reduceEqDiff, reduceCtorEq, Nat.reduceLeDiff, Nat.reduceSub, Nat.reduceMul, Nat.reduceLT, Int.reduceEq, Int.reduceLT, Int.reduceLE, Int.reduceBEq, Int.reduceBNe, Int.reduceToNat, Int.reduceNeg, Int.reduceSub, Int.reduceAdd, hmap]
  refine loopK (fun m s' => ∃ (seen : List Nat) (iti idr nx : Nat) (fs : List Int) (H4 : Hp), id < iti ∧ iti < nx ∧ idr < nx ∧ idr ≠ iti ∧ idr ≠ id ∧ H4 id = some (.map (pmA es) clock) ∧ H4 iti = some (.iter (some id) clock seen clock) ∧ H4 idr = some (.row true 3 (fs.map intH)) ∧ (fs ++ (leftL es seen).map fun x => x.key.file).Perm (es.map fun x => x.key.file) ∧ m = (leftL es seen).length ∧
    s' = ⟨[(3, .rw idr 1 0 fs.length), (7, .ptr iti 0)], H4, nx⟩) _ [3, 7] ⟨[], n2, 2, n2 + 1, [], _, by omega, by omega, by omega, by omega, by omega, ?_, upd_same _ _ _, ?_, by rw [leftL_nil]; exact List.Perm.refl _, rfl, rfl⟩ ?_
  · rw [upd_other (by omega)]; exact hmap
  · rw [upd_other (by omega)]; exact hrow
  clear hmap hrow hold
  rintro m _ ⟨seen, iti, idr, nx, fs, H4, hi1, hi2, hi3, hi4, hi5, hmap, hoi, hrow, hperm, rfl, rfl⟩
  simp only [push_cast, Nat.reduceBEq, Nat.reduceAdd, Nat.reduceEqDiff, reduceCtorEq, Nat.reduceLeDiff, Nat.reduceSub, Nat.reduceMul, Nat.reduceLT, Int.reduceEq, Int.reduceLT, Int.reduceLE, Int.reduceBEq, Int.reduceBNe, Int.reduceToNat, Int.reduceNeg, Int.reduceSub, Int.reduceAdd, hmap, hoi]
  refine nextK (borns_me hmo) (Nat.le_refl _) (fun hle => ?_) (fun x0 hx0 => ?_)
  · have hle' : leftL es seen = [] := by
      unfold pmA at hle
      rw [leftE_me] at hle
      exact List.map_eq_nil_iff.1 hle
    rw [hle', List.map_nil, List.append_nil] at hperm
    have hfl : fs.length ≤ 1000000 := by have := hperm.length_eq; rw [List.length_map] at this; omega
    have hsz : sortZ fs = filesS s := sortZ_congr (hperm.trans (rel_files hrel))
    simp only [push_cast, Nat.reduceBEq, Nat.reduceAdd, Nat.reduceEqDiff, reduceCtorEq, Nat.reduceLeDiff, Nat.reduceSub, Nat.reduceMul, Nat.reduceLT, Int.reduceEq, Int.reduceLT, Int.reduceLE, Int.reduceBEq, Int.reduceBNe, Int.reduceToNat, Int.reduceNeg, Int.reduceSub, Int.reduceAdd]
    refine callH (sortI_h hrow hfl) ?_
    rintro _ H5 n5 ⟨rfl, rfl, rfl⟩
    have hlen : (sortZ fs).length = fs.length := (sortZ_perm fs).length_eq
    rw [← hlen, hsz]
    simp only [push_cast, Nat.reduceBEq, Nat.reduceAdd, Nat.reduceEqDiff, reduceCtorEq, Nat.reduceLeDiff, Nat.reduceSub, Nat.reduceMul, Nat.reduceLT, Int.reduceEq, Int.reduceLT, Int.reduceLE, Int.reduceBEq, Int.reduceBNe, Int.reduceToNat, Int.reduceNeg, Int.reduceSub, Int.reduceAdd]
  · unfold pmA at hx0
    rw [leftE_me] at hx0
    obtain ⟨x, hxl, rfl⟩ := List.mem_map.1 hx0
    clear hx0
    have hxm : x ∈ es := (List.mem_filter.1 hxl).1
    have hfb : (pmA es).find? (fun e => e.born == x.born) = some ⟨.agg [.lit (.int .i64 x.key.level), .lit (.int .i64 x.key.file)], .agg [.lit (.int .i64 x.val.file), .lit (.int .i64 x.val.size), .lit (.string x.val.first), .lit (.string x.val.last)], x.born⟩ := find_born (kA := plA) (vA := metaA) hmo.borns hxm
    have hll := left_len hmo.borns hxl
    have hnext := leftL_next hmo.borns hxl
    have hpl : (fs ++ [x.key.file] ++ (leftL es (seen ++ [x.born])).map fun x => x.key.file).Perm (es.map fun x => x.key.file) := by
      rw [List.append_assoc]
      refine List.Perm.trans ?_ hperm
      exact ((hnext.map fun x => x.key.file).symm.append_left fs)
    have hfl : fs.length ≤ 400000 := by have := hperm.length_eq; rw [List.length_append, List.length_map, List.length_map] at this; omega
    have hb : (fs.length + 1) * 8 ≤ 140737488355328 := by omega
    have ne1 : (iti == id) = false := by rw [← Bool.not_eq_true, beq_iff_eq]; omega
    have ne2 : (nx == iti) = false := by rw [← Bool.not_eq_true, beq_iff_eq]; omega
    have ne3 : (nx == id) = false := by rw [← Bool.not_eq_true, beq_iff_eq]; omega
    have ne4 : (nx == idr) = false := by rw [← Bool.not_eq_true, beq_iff_eq]; omega
    have ne5 : (iti == idr) = false := by rw [← Bool.not_eq_true, beq_iff_eq]; omega
    have ne6 : (nx + 1 == idr) = false := by rw [← Bool.not_eq_true, beq_iff_eq]; omega
    simp only [push_cast, Nat.reduceBEq, Nat.reduceAdd, Nat.reduceEqDiff, reduceCtorEq, Nat.reduceLeDiff, Nat.reduceSub, Nat.reduceMul, Nat.reduceLT, Int.reduceEq, Int.reduceLT, Int.reduceLE, Int.reduceBEq, Int.reduceBNe, Int.reduceToNat, Int.reduceNeg, Int.reduceSub, Int.reduceAdd, Ent.me, plA, plH, metaA, metaH, hmap, List.getLast?_concat, hfb, ne1, ne2, ne3, ne4, ne5, ne6, hrow, hb, nbq0_1 nx, nbq1_0 nx]
    refine ⟨_, hll, seen ++ [x.born], iti, nx + 1 + 1, nx + 1 + 1 + 1, fs ++ [x.key.file], _, hi1, by omega, by omega, by omega, by omega, ?_, ?_, ?_, hpl, rfl, by rw [List.length_append]; rfl⟩
    · rw [upd_other (by omega), upd_other (by omega), upd_other (by omega), upd_other (by omega), upd_other (by omega), upd_other (by omega)]; exact hmap
    · rw [upd_other (by omega), upd_other (by omega), upd_other (by omega), upd_other (by omega), upd_other (by omega), upd_same]
    · rw [upd_same, List.map_append]; rfl
end Go.Proofs.Ytheanmfdfoefoaa
