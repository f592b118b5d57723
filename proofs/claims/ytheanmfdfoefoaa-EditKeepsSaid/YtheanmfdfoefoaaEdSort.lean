/- Edit: sorting a level's tables. -/
import Derived.Test.YtheanmfdfoefoaaHvSort
import Derived.Test.YtheanmfdfoefoaaEdA
import Derived.Test.YtheanmfdfoefoaaOrd
import Derived.Shelf.SlicesG.Cmp
import Derived.Shelf.Lay
import Derived.Ground.SlsfProg
import Derived.Ground.SlgcProg
namespace Go.Proofs.Ytheanmfdfoefoaa
open Go Go.RowKit Go.Sort Go.Shelf Go.Lib Hv
set_option linter.unusedSimpArgs false

instance inhMetaS : Inhabited MetaD := ⟨⟨0, 0, ⟨#[]⟩, ⟨#[]⟩⟩⟩
shelf_lay_g SlLaysF0.n6 Slsf 6 at Try 97 as Try.sortM
shelf_lay_g SlLaysC2.n5 Slgc 5 at Try 99 as Try.cmpI
def cmpStr (a b : ByteArray) : Int := if slt a b then -1 else if slt b a then 1 else 0
theorem metaC_one' (m : MetaD) : ∀ u ∈ metaC m, u.oneCell' = true := by
  intro u hu
  simp only [metaC, List.mem_cons, List.not_mem_nil, or_false] at hu
  rcases hu with rfl | rfl | rfl | rfl <;> rfl
set_option maxHeartbeats 1000000 in
theorem cmpFile_c (x y : MetaD) (W : World) : Calls Try.prog 98 #[.agg (metaC x).toArray, .agg (metaC y).toArray] W fun e w' => e = .returned (.int .i64 (compareInt x.file y.file)) ∧ ∃ q os', w' = grow (W.drewN q) os' := by
  have hcon := fun W' => AnyG.cmp_Compare_int Try.cmpI x.file y.file W'
  change ∀ W', Calls Try.prog 99 _ _ _ at hcon
  unfold metaC
  generalize compareInt x.file y.file = r at hcon ⊢
  go_enter Try.func98, Try.ntmps98
  go_wp2_with (go_at_call 99; refine (hcon _).mono ?_; rintro e w' ⟨rfl, rfl⟩)
  go_ret
  exact ⟨rfl, 0, _, by rw [alloc_eq_grow, alloc_eq_grow, grow_grow]; rfl⟩
theorem gtr_str (a b : ByteArray) : (!(Op.bytesLess a.toList b.toList || a.toList == b.toList)) = slt b a := by
  have : (Op.bytesLess a.toList b.toList || a.toList == b.toList) = sle a b := rfl
  rw [this, sle_not, Bool.not_not]
set_option maxHeartbeats 1000000 in
theorem cmpS_c (a b : ByteArray) (W : World) : Calls Try.prog 101 #[.string a, .string b] W fun e w' => e = .returned (.int .i64 (cmpStr a b)) ∧ w' = W := by
  have hg := gtr_str a b
  obtain ⟨z, hz⟩ : ∃ z, cmpStr a b = z := ⟨_, rfl⟩
  have hz' := hz
  unfold cmpStr slt at hz'
  rw [hz]
  cases h1 : Op.bytesLess a.toList b.toList with
  | true =>
    rw [h1] at hz'
    simp only [if_true] at hz'
    subst hz'
    clear hz hg
    go_enter Try.func101, Try.ntmps101
    go_wp2
    go_ret
    exact ⟨rfl, rfl⟩
  | false =>
    rw [h1, Bool.false_or] at hg
    unfold slt at hg
    rw [h1, ← hg] at hz'
    simp only [Bool.false_eq_true, if_false] at hz'
    clear hz hg
    cases h2 : a.toList == b.toList with
    | true =>
      rw [h2] at hz'
      simp only [Bool.not_true, Bool.false_eq_true, if_false] at hz'
      subst hz'
      go_enter Try.func101, Try.ntmps101
      go_wp2
      go_ret
      exact ⟨rfl, rfl⟩
    | false =>
      rw [h2] at hz'
      simp only [Bool.not_false, if_true] at hz'
      subst hz'
      go_enter Try.func101, Try.ntmps101
      go_wp2
      go_ret
      exact ⟨rfl, rfl⟩
set_option maxHeartbeats 1000000 in
theorem cmpFirst_c (x y : MetaD) (W : World) : Calls Try.prog 100 #[.agg (metaC x).toArray, .agg (metaC y).toArray] W fun e w' => e = .returned (.int .i64 (cmpStr x.first y.first)) ∧ ∃ q os', w' = grow (W.drewN q) os' := by
  have hcon := fun W' => cmpS_c x.first y.first W'
  unfold metaC
  generalize cmpStr x.first y.first = r at hcon ⊢
  go_enter Try.func100, Try.ntmps100
  go_wp2_with (go_at_call 101; refine (hcon _).mono ?_; rintro e w' ⟨rfl, rfl⟩)
  go_ret
  exact ⟨rfl, 0, _, by rw [alloc_eq_grow, alloc_eq_grow, grow_grow]; rfl⟩
theorem ltFile (x y : MetaD) : ltOf (fun x y : MetaD => compareInt x.file y.file) x y = decide (x.file < y.file) := by
  unfold ltOf compareInt
  by_cases h1 : x.file < y.file
  · simp [h1]
  · by_cases h2 : y.file < x.file <;> simp [h1, h2]
theorem swoFile : SWO (ltOf fun x y : MetaD => compareInt x.file y.file) where
  irrefl x := by rw [ltFile]; simp
  trans x y z h1 h2 := by rw [ltFile] at *; simp at *; omega
  ntrans x y z h1 h2 := by rw [ltFile] at *; simp at *; omega
theorem ltFirst (x y : MetaD) : ltOf (fun x y : MetaD => cmpStr x.first y.first) x y = slt x.first y.first := by
  unfold ltOf cmpStr
  cases h1 : slt x.first y.first with
  | true => simp [h1]
  | false =>
    cases h2 : slt y.first x.first <;> simp [h1, h2]
theorem swoFirst : SWO (ltOf fun x y : MetaD => cmpStr x.first y.first) where
  irrefl x := by rw [ltFirst, slt_no]; exact List.not_lt.1 (List.lt_irrefl _)
  trans x y z h1 h2 := by rw [ltFirst, slt_iff] at *; exact List.lt_trans h1 h2
  ntrans x y z h1 h2 := by rw [ltFirst, slt_no] at *; exact List.le_trans h2 h1
theorem metaH_enc (m : MetaD) : encA metaC m = metaH m := rfl
theorem szOf_meta : szOf Try.prog 51 = 4 := by unfold szOf; kernel_rfl
theorem sortFile_h {H : Hp} {n id : Nat} {l : List MetaD} (ho : H id = some (.row true 51 (l.map metaH))) (hl : l.length ≤ 1000000) :
    HCalls Try.prog 97 [.rw id 4 0 l.length, .fn 98 []] H n fun r H' n' => r = .tup [] ∧ n' = n ∧ ∃ l' : List MetaD, l'.Perm l ∧ l'.Pairwise (fun x y => x.file ≤ y.file) ∧ H' = upd H id (some (.row true 51 (l'.map metaH))) :=
  (sortFunc_hc Try.sortM 4 Try.isAgg51 Try.sizeOf51 metaC metaC_len metaC_one' (fun x y => compareInt x.file y.file) swoFile 98 (by kernel_rfl) (enters_of Try.func98 (by kernel_rfl) rfl) cmpFile_c (n := n) ho szOf_meta (by omega)).mono
    fun r H' n' ⟨h1, h2, l', h3, h4, h5⟩ => ⟨h1, h2, l', h3, h4.imp fun {x y} h => by rw [ltFile] at h; simpa using h, h5⟩
theorem sortFirst_h {H : Hp} {n id : Nat} {l : List MetaD} (ho : H id = some (.row true 51 (l.map metaH))) (hl : l.length ≤ 1000000) :
    HCalls Try.prog 97 [.rw id 4 0 l.length, .fn 100 []] H n fun r H' n' => r = .tup [] ∧ n' = n ∧ ∃ l' : List MetaD, l'.Perm l ∧ l'.Pairwise (fun x y => sle x.first y.first = true) ∧ H' = upd H id (some (.row true 51 (l'.map metaH))) :=
  (sortFunc_hc Try.sortM 4 Try.isAgg51 Try.sizeOf51 metaC metaC_len metaC_one' (fun x y => cmpStr x.first y.first) swoFirst 100 (by kernel_rfl) (enters_of Try.func100 (by kernel_rfl) rfl) cmpFirst_c (n := n) ho szOf_meta (by omega)).mono
    fun r H' n' ⟨h1, h2, l', h3, h4, h5⟩ => ⟨h1, h2, l', h3, h4.imp fun {x y} h => by rw [ltFirst] at h; rw [sle_not, h]; rfl, h5⟩
theorem apart_at {l : List MetaD} (k : Nat) (x y : MetaD) (h : apartL l = true) (hx : l[k]? = some x) (hy : l[k + 1]? = some y) : sle y.first x.last = false := by
  obtain ⟨h1, rfl⟩ := List.getElem?_eq_some_iff.1 hx
  obtain ⟨h2, rfl⟩ := List.getElem?_eq_some_iff.1 hy
  exact (apart_iff l).1 h k h2
/-- Do the first k tables lie apart? -/
def apartTo (l : List MetaD) (k : Nat) : Prop := ∀ j x y, j + 1 < k → l[j]? = some x → l[j + 1]? = some y → sle y.first x.last = false
theorem apartTo_all {l : List MetaD} (h : apartTo l l.length) : apartL l = true := by
  rw [apart_iff]
  intro k hk
  exact h k _ _ hk (List.getElem?_eq_getElem (by omega)) (List.getElem?_eq_getElem hk)
theorem apartTo_step {l : List MetaD} {k : Nat} {x y : MetaD} (h : apartTo l k) (hx : l[k - 1]? = some x) (hy : l[k]? = some y) (hk : 1 ≤ k) (hb : sle y.first x.last = false) : apartTo l (k + 1) := by
  intro j x' y' hj hx' hy'
  rcases Nat.lt_or_ge (j + 1) k with h1 | h1
  · exact h j x' y' h1 hx' hy'
  · obtain rfl : k = j + 1 := by omega
    rw [Nat.add_sub_cancel] at hx
    rw [hx] at hx'
    rw [hy] at hy'
    injection hx' with e1
    injection hy' with e2
    subst e1 e2
    exact hb
theorem apartTo_no {l : List MetaD} {k : Nat} {x y : MetaD} (hx : l[k - 1]? = some x) (hy : l[k]? = some y) (hk : 1 ≤ k) (hb : sle y.first x.last = true) : apartL l = false := by
  rw [← Bool.not_eq_true]
  intro h
  obtain ⟨j, rfl⟩ : ∃ j, k = j + 1 := ⟨k - 1, by omega⟩
  rw [Nat.add_sub_cancel] at hx
  have := apart_at j x y h hx hy
  rw [hb] at this; cases this
theorem wrap_pred {k : Nat} (h : 1 ≤ k) (h' : k < 4611686018427387904) : IntKind.i64.wrap ((k : Int) - 1) = ((k - 1 : Nat) : Int) := by
  simp [IntKind.wrap, IntKind.bits, IntKind.signed]; omega
/-- What sort answers and makes of a level's row. -/
def SortPost (H : Hp) (n id : Nat) (l : List MetaD) (z : Bool) (r : AV) (H' : Hp) (n' : Nat) : Prop :=
  n' = n ∧ ∃ l' : List MetaD, l'.Perm l ∧ (z = true → l'.Pairwise fun x y => x.file ≤ y.file) ∧ (z = false → l'.Pairwise fun x y => sle x.first y.first = true) ∧ H' = upd H id (some (.row true 51 (l'.map metaH))) ∧ r = .lit (.bool (if z then true else apartL l'))
set_option maxRecDepth 20000 in
set_option maxHeartbeats 4000000 in
theorem sort_h {H : Hp} {n id : Nat} {l : List MetaD} (lv : Int) (ho : H id = some (.row true 51 (l.map metaH))) (hl : l.length ≤ 1000000) (z : Bool) (hz : (lv == 0) = z) :
    HCalls Try.prog 62 [.rw id 4 0 l.length, .lit (.int .i64 lv)] H n (SortPost H n id l z) := by
  refine hcallsC_of (rs := [.tmp 4]) ⟨[0, 1, 4, 5, 7, 15, 29], [], [], [(8, [(0, [], []), (1, [], []), (2, [], []), (3, [], []), (4, [], []), (5, [], []), (6, [], []), (7, [], []), (8, [], []), (9, [], []), (10, [], []), (11, [], [])])], [], []⟩ TOk mixed Try.func62 rfl rfl (by kernel_rfl) (by kernel_rfl) rfl ?_
  cases z with
  | true =>
    simp only [push_cast, Nat.reduceBEq, Nat.reduceAdd, Nat.reduceEqDiff, reduceCtorEq, Nat.reduceLeDiff, Nat.reduceSub, Nat.reduceMul, Nat.reduceLT, Int.reduceEq, Int.reduceLT, Int.reduceLE, Int.reduceBEq, Int.reduceBNe, Int.reduceToNat, Int.reduceNeg, Int.reduceSub, Int.reduceAdd, hz]
    refine callH (sortFile_h ho hl) ?_
    rintro r H' n' ⟨rfl, rfl, l', h1, h2, rfl⟩
    simp only [push_cast, Nat.reduceBEq, Nat.reduceAdd, Nat.reduceEqDiff, reduceCtorEq, Nat.reduceLeDiff, Nat.reduceSub, Nat.reduceMul, Nat.reduceLT, Int.reduceEq, Int.reduceLT, Int.reduceLE, Int.reduceBEq, Int.reduceBNe, Int.reduceToNat, Int.reduceNeg, Int.reduceSub, Int.reduceAdd]
    exact ⟨rfl, l', h1, fun _ => h2, fun h => (by cases h), rfl, rfl⟩
  | false =>
    simp only [push_cast, Nat.reduceBEq, Nat.reduceAdd, Nat.reduceEqDiff, reduceCtorEq, Nat.reduceLeDiff, Nat.reduceSub, Nat.reduceMul, Nat.reduceLT, Int.reduceEq, Int.reduceLT, Int.reduceLE, Int.reduceBEq, Int.reduceBNe, Int.reduceToNat, Int.reduceNeg, Int.reduceSub, Int.reduceAdd, hz]
    refine callH (sortFirst_h ho hl) ?_
    rintro r H' n' ⟨rfl, rfl, l', h1, h2, rfl⟩
    have hlen := h1.length_eq
    obtain ⟨H1, hH1⟩ : ∃ H1, upd H id (some (.row true 51 (l'.map metaH))) = H1 := ⟨_, rfl⟩
    have ho1 : H1 id = some (.row true 51 (l'.map metaH)) := by rw [← hH1, upd_same]
    simp only [hH1]
    simp only [push_cast, Nat.reduceBEq, Nat.reduceAdd, Nat.reduceEqDiff, reduceCtorEq, Nat.reduceLeDiff, Nat.reduceSub, Nat.reduceMul, Nat.reduceLT, Int.reduceEq, Int.reduceLT, Int.reduceLE, Int.reduceBEq, Int.reduceBNe, Int.reduceToNat, Int.reduceNeg, Int.reduceSub, Int.reduceAdd]
    refine loopK (fun n s => ∃ k : Nat, 1 ≤ k ∧ (k ≤ l.length ∨ k = 1) ∧ apartTo l' k ∧ n = l.length - k ∧ s = ⟨[(0, .rw id 4 0 l.length), (5, .lit (.int .i64 (k : Int)))], H1, n'⟩) _ [0, 5] ⟨1, Nat.le_refl _, .inr rfl, fun j x y h => by omega, rfl, rfl⟩ ?_
    rintro n _ ⟨k, hk1, hkl, hap, rfl, rfl⟩
    by_cases h : k < l.length
    · obtain ⟨x, hx⟩ : ∃ x, l'[k - 1]? = some x := ⟨_, List.getElem?_eq_getElem (by omega)⟩
      obtain ⟨y, hy⟩ : ∃ y, l'[k]? = some y := ⟨_, List.getElem?_eq_getElem (by omega)⟩
      have hw := wrap_pred hk1 (by omega)
      have hw2 := wrap_nat (k := k) (by omega)
      have hlt : k - 1 < l.length := by omega
      have hsle : (Op.bytesLess y.first.toList x.last.toList || y.first.toList == x.last.toList) = sle y.first x.last := rfl
      cases hb : sle y.first x.last with
      | true =>
        have hno := apartTo_no hx hy hk1 hb
        simp only [push_cast, Nat.reduceBEq, Nat.reduceAdd, Nat.reduceEqDiff, reduceCtorEq, Nat.reduceLeDiff, Nat.reduceSub, Nat.reduceMul, Nat.reduceLT, Int.reduceEq, Int.reduceLT, Int.reduceLE, Int.reduceBEq, Int.reduceBNe, Int.reduceToNat, Int.reduceNeg, Int.reduceSub, Int.reduceAdd, h, ho1, hx, hy, hw, hlt, metaH, hsle, hb]
        exact ⟨rfl, l', h1, fun h => (by cases h), fun _ => h2, hH1.symm, by rw [hno]; rfl⟩
      | false =>
        simp only [push_cast, Nat.reduceBEq, Nat.reduceAdd, Nat.reduceEqDiff, reduceCtorEq, Nat.reduceLeDiff, Nat.reduceSub, Nat.reduceMul, Nat.reduceLT, Int.reduceEq, Int.reduceLT, Int.reduceLE, Int.reduceBEq, Int.reduceBNe, Int.reduceToNat, Int.reduceNeg, Int.reduceSub, Int.reduceAdd, h, ho1, hx, hy, hw, hw2, hlt, metaH, hsle, hb]
        exact ⟨_, by omega, k + 1, by omega, .inl (by omega), apartTo_step hap hx hy hk1 hb, rfl, rfl⟩
    · have hyes : apartL l' = true := by
        rcases hkl with hkl | hkl
        · exact apartTo_all (by rw [hlen, show l.length = k by omega]; exact hap)
        · exact apartTo_all fun j x y hj => by omega
      simp only [push_cast, Nat.reduceBEq, Nat.reduceAdd, Nat.reduceEqDiff, reduceCtorEq, Nat.reduceLeDiff, Nat.reduceSub, Nat.reduceMul, Nat.reduceLT, Int.reduceEq, Int.reduceLT, Int.reduceLE, Int.reduceBEq, Int.reduceBNe, Int.reduceToNat, Int.reduceNeg, Int.reduceSub, Int.reduceAdd, h]
      exact ⟨rfl, l', h1, fun h => (by cases h), fun _ => h2, hH1.symm, by rw [hyes]; rfl⟩
theorem sortFuncNil_h (g : Nat) : Hv.ACalls Try.prog 97 [.sl [], .fn g []] (.tup []) := by
  refine ⟨by kernel_rfl, fun w W gb vs hW hlen hrep => ?_⟩
  match vs, hlen with
  | [v0, v1], _ =>
    have r0 := hrep 0 _ v0 rfl rfl
    cases r0 with
    | sl _ sz A c b off val hi hc hm ha hcell hF h1 hr =>
      exact (AnyF.slices_SortFunc_none Try.sortM A c v1 w).mono fun e w' ⟨he, hw⟩ => ⟨_, he, Rep.tup [] [] rfl fun j c u h => by simp at h, by subst hw; exact RowKit.Below.refl _ _⟩
set_option maxRecDepth 20000 in
set_option maxHeartbeats 4000000 in
theorem sortNil_h (lv : Int) : Hv.ACalls Try.prog 62 [.sl [], .lit (.int .i64 lv)] (.lit (.bool true)) := by
  refine acallsC_of (rs := [.tmp 4]) ⟨[0, 1, 4, 5, 7, 15, 29], [], [], [(8, [(0, [], []), (1, [], []), (2, [], []), (3, [], []), (4, [], []), (5, [], []), (6, [], []), (7, [], []), (8, [], []), (9, [], []), (10, [], []), (11, [], [])])], [], []⟩ TOk mixed Try.func62 rfl rfl (by kernel_rfl) (by kernel_rfl) rfl (by simp [noId_lit, noId_sl]) (by simp [noId_lit]) ?_
  cases hz : lv == 0 with
  | true =>
    simp only [push_cast, Nat.reduceBEq, Nat.reduceAdd, Nat.reduceEqDiff, reduceCtorEq, Nat.reduceLeDiff, Nat.reduceSub, Nat.reduceMul, Nat.reduceLT, Int.reduceEq, Int.reduceLT, Int.reduceLE, Int.reduceBEq, Int.reduceBNe, Int.reduceToNat, Int.reduceNeg, Int.reduceSub, Int.reduceAdd, hz]
    refine callK (sortFuncNil_h _) ?_
    simp only [push_cast, Nat.reduceBEq, Nat.reduceAdd, Nat.reduceEqDiff, reduceCtorEq, Nat.reduceLeDiff, Nat.reduceSub, Nat.reduceMul, Nat.reduceLT, Int.reduceEq, Int.reduceLT, Int.reduceLE, Int.reduceBEq, Int.reduceBNe, Int.reduceToNat, Int.reduceNeg, Int.reduceSub, Int.reduceAdd]
  | false =>
    simp only [push_cast, Nat.reduceBEq, Nat.reduceAdd, Nat.reduceEqDiff, reduceCtorEq, Nat.reduceLeDiff, Nat.reduceSub, Nat.reduceMul, Nat.reduceLT, Int.reduceEq, Int.reduceLT, Int.reduceLE, Int.reduceBEq, Int.reduceBNe, Int.reduceToNat, Int.reduceNeg, Int.reduceSub, Int.reduceAdd, hz]
    refine callK (sortFuncNil_h _) ?_
    simp only [push_cast, Nat.reduceBEq, Nat.reduceAdd, Nat.reduceEqDiff, reduceCtorEq, Nat.reduceLeDiff, Nat.reduceSub, Nat.reduceMul, Nat.reduceLT, Int.reduceEq, Int.reduceLT, Int.reduceLE, Int.reduceBEq, Int.reduceBNe, Int.reduceToNat, Int.reduceNeg, Int.reduceSub, Int.reduceAdd]
    refine loopK (fun n s => n = 0 ∧ s = ⟨[(0, .sl []), (5, .lit (.int .i64 1))], fun _ => none, 0⟩) _ [0, 5] ⟨rfl, rfl⟩ ?_
    rintro n _ ⟨rfl, rfl⟩
    have h10 : ¬ (1 : Int) < 0 := by omega
    simp only [push_cast, Nat.reduceBEq, Nat.reduceAdd, Nat.reduceEqDiff, reduceCtorEq, Nat.reduceLeDiff, Nat.reduceSub, Nat.reduceMul, Nat.reduceLT, Int.reduceEq, Int.reduceLT, Int.reduceLE, Int.reduceBEq, Int.reduceBNe, Int.reduceToNat, Int.reduceNeg, Int.reduceSub, Int.reduceAdd, h10]
end Go.Proofs.Ytheanmfdfoefoaa
