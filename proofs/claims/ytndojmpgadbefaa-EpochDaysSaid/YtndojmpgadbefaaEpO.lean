/- Epochs: the oldest, which live, how much is kept; by the walk over a heap. -/
import Derived.Test.YtndojmpgadbefaaEpE
set_option linter.unusedVariables false
set_option linter.unusedSimpArgs false
namespace Go.Proofs.Ytndojmpgadbefaa
open Go Go.RowKit Hv
set_option maxRecDepth 20000
set_option maxHeartbeats 4000000
/-- The least of the pins' epochs, or the one that goes on. -/
structure IsOldest (D : EpD) (z : Int) : Prop where
  le : z ≤ D.now
  all : ∀ x ∈ D.pins, z ≤ x.val
  is : z = D.now ∨ ∃ x ∈ D.pins, z = x.val
theorem IsOldest.uniq {D : EpD} {z z' : Int} (h : IsOldest D z) (h' : IsOldest D z') : z = z' := by
  have key : ∀ {a b : Int}, IsOldest D a → IsOldest D b → a ≤ b := fun {a b} ha hb => by
    rcases hb.is with hb' | ⟨x, hx, hb'⟩
    · rw [hb']; exact ha.le
    · rw [hb']; exact ha.all x hx
  have := key h h'
  have := key h' h
  omega
theorem find_bornE {κ ν : Type} [DecidableEq κ] {kA : κ → AV} {vA : ν → AV} {es : List (Ent κ ν)} (hn : (es.map (·.born)).Nodup) {x : Ent κ ν} (hx : x ∈ es) : (es.map (Ent.me kA vA)).find? (fun e => e.born == x.born) = some ⟨kA x.key, vA x.val, x.born⟩ := by
  induction es with
  | nil => cases hx
  | cons e es ih =>
    rw [List.map_cons, List.nodup_cons] at hn
    rw [List.map_cons, List.find?_cons]
    rcases List.mem_cons.1 hx with rfl | hx'
    · simp [Ent.me]
    · have hne : (e.born == x.born) = false := by
        rw [beq_eq_false_iff_ne]
        intro h
        exact hn.1 (List.mem_map.2 ⟨x, hx', h.symm⟩)
      have : ((Ent.me kA vA e).born == x.born) = false := hne
      rw [this]
      exact ih hn.2 hx'
theorem left_lenE {κ ν : Type} [DecidableEq κ] {es : List (Ent κ ν)} {seen : List Nat} (hn : (es.map (·.born)).Nodup) {x : Ent κ ν} (hx : x ∈ leftL es seen) : (leftL es (seen ++ [x.born])).length < (leftL es seen).length := by
  have := (leftL_next hn hx).length_eq
  rw [List.length_cons] at this; omega
section
variable {H H' : Hp} {n n' e : Nat} {S : Nat → Prop} {D : EpD} {N : EpN}
theorem oldest_c (h : EpH H n S e N D) {z : Int} (hz : IsOldest D z) : HCalls Try.prog 12 [.ptr e 0] H n fun r H' n' => r = .lit (.int .i64 z) ∧ n ≤ n' ∧ ∀ j, j < n → H' j = H j := by
  refine hcallsC_of (rs := [.tmp 2]) ⟨[0, 2, 3, 5, 10, 15, 17], [], [], [], []⟩ TOk mixed Try.func12 rfl rfl (by kernel_rfl) (by kernel_rfl) rfl ?_
  have ep := h.ep
  have pn := h.pn
  have hen := h.lt e h.Sp.1
  have hpn := h.lt N.pn h.Sp.2.2.1
  simp only [push_cast, Nat.reduceBEq, Nat.reduceAdd, Nat.reduceEqDiff, reduceCtorEq, Nat.reduceLeDiff, Nat.reduceSub, Nat.reduceMul, Nat.reduceLT, Int.reduceEq, Int.reduceLT, Int.reduceLE, Int.reduceBEq, Int.reduceBNe, Int.reduceToNat, Int.reduceNeg, Int.reduceSub, Int.reduceAdd]
  refine callH (now_c h) ?_
  rintro _ H n ⟨rfl, rfl, rfl⟩
  simp only [push_cast, Nat.reduceBEq, Nat.reduceAdd, Nat.reduceEqDiff, reduceCtorEq, Nat.reduceLeDiff, Nat.reduceSub, Nat.reduceMul, Nat.reduceLT, Int.reduceEq, Int.reduceLT, Int.reduceLE, Int.reduceBEq, Int.reduceBNe, Int.reduceToNat, Int.reduceNeg, Int.reduceSub, Int.reduceAdd]
  refine callH (none_h ep) ?_
  rintro _ H n ⟨rfl, rfl, rfl⟩
  simp only [push_cast, Nat.reduceBEq, Nat.reduceAdd, Nat.reduceEqDiff, reduceCtorEq, Nat.reduceLeDiff, Nat.reduceSub, Nat.reduceMul, Nat.reduceLT, Int.reduceEq, Int.reduceLT, Int.reduceLE, Int.reduceBEq, Int.reduceBNe, Int.reduceToNat, Int.reduceNeg, Int.reduceSub, Int.reduceAdd, ep, pn]
  refine loopK (fun q s => ∃ (seen : List Nat) (m : Int) (H4 : Hp), s = ⟨[(3, .lit (.int .i64 m)), (15, .ptr n 0)], H4, n + 1⟩ ∧ (∀ j, j < n → H4 j = H j) ∧ H4 n = some (.iter (some N.pn) D.pc seen D.pc) ∧ m ≤ D.now ∧ (m = D.now ∨ ∃ x ∈ D.pins, m = x.val) ∧ (∀ x ∈ D.pins, x ∈ leftL D.pins seen ∨ m ≤ x.val) ∧ q = (leftL D.pins seen).length) _ [3, 15]
    ⟨[], D.now, _, rfl, fun j hj => upd_other (by omega), upd_same _ _ _, Int.le_refl _, .inl rfl, fun x hx => .inl (by rw [leftL_nil]; exact hx), rfl⟩ ?_
  rintro q _ ⟨seen, m, H4, rfl, hk, hI, hm1, hm2, hm3, rfl⟩
  have pn4 := (hk _ hpn).trans pn
  simp only [push_cast, Nat.reduceBEq, Nat.reduceAdd, Nat.reduceEqDiff, reduceCtorEq, Nat.reduceLeDiff, Nat.reduceSub, Nat.reduceMul, Nat.reduceLT, Int.reduceEq, Int.reduceLT, Int.reduceLE, Int.reduceBEq, Int.reduceBNe, Int.reduceToNat, Int.reduceNeg, Int.reduceSub, Int.reduceAdd, hI, pn4]
  refine nextK (borns_me h.pnOk) (Nat.le_refl _) (fun hle => ?_) (fun x0 hx0 => ?_)
  · have hle' : leftL D.pins seen = [] := by
      rw [leftE_me] at hle
      exact List.map_eq_nil_iff.1 hle
    have hzz : m = z := IsOldest.uniq ⟨hm1, fun x hx => by
      rcases hm3 x hx with hc | hc
      · rw [hle'] at hc; cases hc
      · exact hc, hm2⟩ hz
    simp only [push_cast, Nat.reduceBEq, Nat.reduceAdd, Nat.reduceEqDiff, reduceCtorEq, Nat.reduceLeDiff, Nat.reduceSub, Nat.reduceMul, Nat.reduceLT, Int.reduceEq, Int.reduceLT, Int.reduceLE, Int.reduceBEq, Int.reduceBNe, Int.reduceToNat, Int.reduceNeg, Int.reduceSub, Int.reduceAdd, hzz]
    exact ⟨Nat.le_succ _, hk⟩
  · rw [leftE_me] at hx0
    obtain ⟨x, hx, rfl⟩ := List.mem_map.1 hx0
    have hxm : x ∈ D.pins := (List.mem_filter.1 hx).1
    have hfb := find_bornE (kA := intA) (vA := intA) h.pnOk.borns hxm
    have hll := left_lenE h.pnOk.borns hx
    have hnext := leftL_next h.pnOk.borns hx
    have r4 : (n == N.pn) = false := nb (by omega)
    simp only [intA] at hfb
    by_cases hlt : x.val < m
    · simp only [push_cast, Nat.reduceBEq, Nat.reduceAdd, Nat.reduceEqDiff, reduceCtorEq, Nat.reduceLeDiff, Nat.reduceSub, Nat.reduceMul, Nat.reduceLT, Int.reduceEq, Int.reduceLT, Int.reduceLE, Int.reduceBEq, Int.reduceBNe, Int.reduceToNat, Int.reduceNeg, Int.reduceSub, Int.reduceAdd, Ent.me, intA, pn4, List.getLast?_concat, hfb, r4, hlt]
      refine ⟨_, hll, seen ++ [x.born], x.val, _, rfl, fun j hj => ?_, upd_same _ _ _, by omega, .inr ⟨x, hxm, rfl⟩, fun y hy => ?_, rfl⟩
      · rw [upd_other (by omega)]; exact hk j hj
      · rcases hm3 y hy with hc | hc
        · rcases List.mem_cons.1 (hnext.mem_iff.1 hc) with rfl | hc
          · exact .inr (Int.le_refl _)
          · exact .inl hc
        · exact .inr (by omega)
    · simp only [push_cast, Nat.reduceBEq, Nat.reduceAdd, Nat.reduceEqDiff, reduceCtorEq, Nat.reduceLeDiff, Nat.reduceSub, Nat.reduceMul, Nat.reduceLT, Int.reduceEq, Int.reduceLT, Int.reduceLE, Int.reduceBEq, Int.reduceBNe, Int.reduceToNat, Int.reduceNeg, Int.reduceSub, Int.reduceAdd, Ent.me, intA, pn4, List.getLast?_concat, hfb, r4, hlt]
      refine ⟨_, hll, seen ++ [x.born], m, _, rfl, fun j hj => ?_, upd_same _ _ _, hm1, hm2, fun y hy => ?_, rfl⟩
      · rw [upd_other (by omega)]; exact hk j hj
      · rcases hm3 y hy with hc | hc
        · rcases List.mem_cons.1 (hnext.mem_iff.1 hc) with rfl | hc
          · exact .inr (by omega)
          · exact .inl hc
        · exact .inr hc
/-- The epochs that live, in order. -/
def EpD.live (D : EpD) : List Int := (List.range D.eras.length).map fun i => ((D.lo + i : Nat) : Int)
theorem EpH.keys (h : EpH H n S e N D) : N.es.map (·.key) = D.live := by
  unfold EpD.live
  refine List.ext_getElem? fun i => ?_
  rw [List.getElem?_map, List.getElem?_map]
  by_cases hi : i < D.eras.length
  · obtain ⟨en, hen⟩ : ∃ en, N.es[i]? = some en := ⟨_, List.getElem?_eq_getElem (by rw [h.esl.1]; exact hi)⟩
    obtain ⟨x, _, hk, _⟩ := h.es i en hen
    rw [hen, List.getElem?_range hi, Option.map_some, Option.map_some, hk]
  · rw [List.getElem?_eq_none (by rw [h.esl.1]; omega), List.getElem?_eq_none (by rw [List.length_range]; omega)]; rfl
theorem live_sorted (D : EpD) : sortI D.live = D.live := by
  unfold sortI
  refine List.mergeSort_of_pairwise ?_
  unfold EpD.live
  refine List.pairwise_map.2 ?_
  exact (List.pairwise_lt_range (n := D.eras.length)).imp fun hlt => decide_eq_true (by omega)
theorem live_c (h : EpH H n S e N D) (hnow : 1 ≤ D.now) (hb : D.eras.length ≤ 1000000) : HCalls Try.prog 14 [.ptr e 0] H n fun r H' n' => ∃ g, r = .rw g 1 0 D.eras.length ∧ n ≤ g ∧ g < n' ∧ H' g = some (.row true 3 (D.live.map intI)) ∧ ∀ j, j < n → H' j = H j := by
  refine hcallsC_of (rs := [.tmp 2]) ⟨[0, 2, 4], [], [], [], []⟩ TOk mixed Try.func14 rfl rfl (by kernel_rfl) (by kernel_rfl) rfl ?_
  have ep := h.ep
  have lv := h.lv
  simp only [push_cast, Nat.reduceBEq, Nat.reduceAdd, Nat.reduceEqDiff, reduceCtorEq, Nat.reduceLeDiff, Nat.reduceSub, Nat.reduceMul, Nat.reduceLT, Int.reduceEq, Int.reduceLT, Int.reduceLE, Int.reduceBEq, Int.reduceBNe, Int.reduceToNat, Int.reduceNeg, Int.reduceSub, Int.reduceAdd]
  have hen := h.lt e h.Sp.1
  have hlv := h.lt N.lv h.Sp.2.1
  have ep1 : upd H n (some (.row false 3 [])) e = _ := (upd_other (by omega)).trans ep
  have lv1 : upd H n (some (.row false 3 [])) N.lv = _ := (upd_other (by omega)).trans lv
  have k1 : ∀ j, j < n → upd H n (some (.row false 3 [])) j = H j := fun j hj => upd_other (by omega)
  generalize upd H n (some (.row false 3 [])) = H1 at ep1 lv1 k1 ⊢
  refine callH (none_h ep1) ?_
  rintro _ H2 n2 ⟨hr, hH, hn⟩
  rw [hr, hH, hn]
  simp only [push_cast, Nat.reduceBEq, Nat.reduceAdd, Nat.reduceEqDiff, reduceCtorEq, Nat.reduceLeDiff, Nat.reduceSub, Nat.reduceMul, Nat.reduceLT, Int.reduceEq, Int.reduceLT, Int.reduceLE, Int.reduceBEq, Int.reduceBNe, Int.reduceToNat, Int.reduceNeg, Int.reduceSub, Int.reduceAdd, ep1]
  refine callH keysOfIE_h ?_
  rintro _ _ _ ⟨rfl, rfl, rfl⟩
  simp only [push_cast, Nat.reduceBEq, Nat.reduceAdd, Nat.reduceEqDiff, reduceCtorEq, Nat.reduceLeDiff, Nat.reduceSub, Nat.reduceMul, Nat.reduceLT, Int.reduceEq, Int.reduceLT, Int.reduceLE, Int.reduceBEq, Int.reduceBNe, Int.reduceToNat, Int.reduceNeg, Int.reduceSub, Int.reduceAdd]
  refine callH (sortedKeysIE_h (vA := ptrA) (mid := N.lv) (clock := N.lc) (es := N.es) ((upd_other (by omega)).trans lv1) (upd_same _ _ _) h.lvOk (fun en hm => by
    obtain ⟨i, hi⟩ := List.mem_iff_getElem?.1 hm
    obtain ⟨x, _, hk, _⟩ := h.es i en hi
    have hil := (List.getElem?_eq_some_iff.1 hi).1
    rw [h.esl.1] at hil
    have h1 := h.ok.cnt
    have h2 := h.ok.nowB
    rw [hk]
    omega) (by rw [h.esl.1]; exact hb)) ?_
  rintro r H5 n5 (⟨rfl, he0, rfl, rfl⟩ | ⟨rfl, rfl, rfl⟩)
  · exfalso
    have := h.esl.1
    rw [he0] at this
    rcases h.ok.pos.2 with h0 | h0
    · omega
    · exact h0 (List.length_eq_zero_iff.1 this.symm)
  · simp only [push_cast, Nat.reduceBEq, Nat.reduceAdd, Nat.reduceEqDiff, reduceCtorEq, Nat.reduceLeDiff, Nat.reduceSub, Nat.reduceMul, Nat.reduceLT, Int.reduceEq, Int.reduceLT, Int.reduceLE, Int.reduceBEq, Int.reduceBNe, Int.reduceToNat, Int.reduceNeg, Int.reduceSub, Int.reduceAdd]
    refine ⟨n + 1 + 1, by rw [h.esl.1], by omega, by omega, ?_, fun j hj => ?_⟩
    · rw [beq_self_eq_true, cond_true, h.keys, live_sorted]
    · rw [nb (show n + 1 + 1 ≠ j by omega), nb (show n + 1 ≠ j by omega), cond_false, cond_false]
      exact k1 j hj
def EpD.kept (D : EpD) : Nat := (D.eras.map (·.bytes)).sum
def bytesOfE (H : Hp) (p : Nat) : Nat := match H p with | some (.cells [_, _, .lit (.int .i64 b)]) => b.toNat | _ => 0
theorem EpH.sum (h : EpH H n S e N D) : (N.es.map fun en => bytesOfE H en.val).sum = D.kept := by
  unfold EpD.kept
  congr 1
  refine List.ext_getElem? fun i => ?_
  rw [List.getElem?_map, List.getElem?_map]
  by_cases hi : i < D.eras.length
  · obtain ⟨en, hen⟩ : ∃ en, N.es[i]? = some en := ⟨_, List.getElem?_eq_getElem (by rw [h.esl.1]; exact hi)⟩
    obtain ⟨r, hr⟩ : ∃ r, D.eras[i]? = some r := ⟨_, List.getElem?_eq_getElem hi⟩
    obtain ⟨x, hx, _, hv⟩ := h.es i en hen
    have := (h.er i x r hx hr).1
    rw [hen, hr, Option.map_some, Option.map_some, hv]
    unfold bytesOfE
    rw [this]
    simp
  · rw [List.getElem?_eq_none (by rw [h.esl.1]; omega), List.getElem?_eq_none (by omega)]; rfl
theorem kept_c (h : EpH H n S e N D) (hb : D.kept ≤ 1000000000000) : HCalls Try.prog 13 [.ptr e 0] H n fun r H' n' => r = .lit (.int .i64 (D.kept : Int)) ∧ n ≤ n' ∧ ∀ j, j < n → H' j = H j := by
  refine hcallsC_of (rs := [.tmp 2]) ⟨[0, 2, 3, 5, 8, 13, 15], [], [], [], []⟩ TOk mixed Try.func13 rfl rfl (by kernel_rfl) (by kernel_rfl) rfl ?_
  have ep := h.ep
  have lv := h.lv
  have hen := h.lt e h.Sp.1
  have hln := h.lt N.lv h.Sp.2.1
  simp only [push_cast, Nat.reduceBEq, Nat.reduceAdd, Nat.reduceEqDiff, reduceCtorEq, Nat.reduceLeDiff, Nat.reduceSub, Nat.reduceMul, Nat.reduceLT, Int.reduceEq, Int.reduceLT, Int.reduceLE, Int.reduceBEq, Int.reduceBNe, Int.reduceToNat, Int.reduceNeg, Int.reduceSub, Int.reduceAdd]
  refine callH (none_h ep) ?_
  rintro _ H n ⟨rfl, rfl, rfl⟩
  simp only [push_cast, Nat.reduceBEq, Nat.reduceAdd, Nat.reduceEqDiff, reduceCtorEq, Nat.reduceLeDiff, Nat.reduceSub, Nat.reduceMul, Nat.reduceLT, Int.reduceEq, Int.reduceLT, Int.reduceLE, Int.reduceBEq, Int.reduceBNe, Int.reduceToNat, Int.reduceNeg, Int.reduceSub, Int.reduceAdd, ep, lv]
  refine loopK (fun q s => ∃ (seen : List Nat) (m : Nat) (H4 : Hp), s = ⟨[(3, .lit (.int .i64 (m : Int))), (13, .ptr n 0)], H4, n + 1⟩ ∧ (∀ j, j < n → H4 j = H j) ∧ H4 n = some (.iter (some N.lv) N.lc seen N.lc) ∧ m + ((leftL N.es seen).map fun en => bytesOfE H en.val).sum = D.kept ∧ q = (leftL N.es seen).length) _ [3, 13]
    ⟨[], 0, _, rfl, fun j hj => upd_other (by omega), upd_same _ _ _, by rw [leftL_nil, h.sum]; omega, rfl⟩ ?_
  rintro q _ ⟨seen, m, H4, rfl, hk, hI, hm, rfl⟩
  have lv4 := (hk _ hln).trans lv
  simp only [push_cast, Nat.reduceBEq, Nat.reduceAdd, Nat.reduceEqDiff, reduceCtorEq, Nat.reduceLeDiff, Nat.reduceSub, Nat.reduceMul, Nat.reduceLT, Int.reduceEq, Int.reduceLT, Int.reduceLE, Int.reduceBEq, Int.reduceBNe, Int.reduceToNat, Int.reduceNeg, Int.reduceSub, Int.reduceAdd, hI, lv4]
  refine nextK (borns_me h.lvOk) (Nat.le_refl _) (fun hle => ?_) (fun x0 hx0 => ?_)
  · have hle' : leftL N.es seen = [] := by
      rw [leftE_me] at hle
      exact List.map_eq_nil_iff.1 hle
    rw [hle'] at hm
    have hmm : m = D.kept := by simpa using hm
    simp only [push_cast, Nat.reduceBEq, Nat.reduceAdd, Nat.reduceEqDiff, reduceCtorEq, Nat.reduceLeDiff, Nat.reduceSub, Nat.reduceMul, Nat.reduceLT, Int.reduceEq, Int.reduceLT, Int.reduceLE, Int.reduceBEq, Int.reduceBNe, Int.reduceToNat, Int.reduceNeg, Int.reduceSub, Int.reduceAdd, hmm]
    exact ⟨Nat.le_succ _, hk⟩
  · rw [leftE_me] at hx0
    obtain ⟨x, hx, rfl⟩ := List.mem_map.1 hx0
    have hxm : x ∈ N.es := (List.mem_filter.1 hx).1
    have hfb := find_bornE (kA := intA) (vA := ptrA) h.lvOk.borns hxm
    have hll := left_lenE h.lvOk.borns hx
    have hnext := leftL_next h.lvOk.borns hx
    have hsum := (hnext.map fun en => bytesOfE H en.val).sum_nat
    rw [List.map_cons, List.sum_cons] at hsum
    obtain ⟨i, hi⟩ := List.mem_iff_getElem?.1 hxm
    obtain ⟨y, hy, hk2, hv2⟩ := h.es i x hi
    obtain ⟨r, hr⟩ : ∃ r, D.eras[i]? = some r := ⟨_, List.getElem?_eq_getElem (by rw [← h.esl.1]; exact (List.getElem?_eq_some_iff.1 hi).1)⟩
    have hc := (h.er i y r hy hr).1
    have hyn := h.lt y.1 (h.Sp.2.2.2 y (List.mem_of_getElem? hy)).1
    have hbx : bytesOfE H x.val = r.bytes := by
      rw [hv2]; unfold bytesOfE; rw [hc]; simp
    have hc4 : H4 x.val = some (.cells [.lit (.int .i64 (r.region : Int)), .mp y.2, .lit (.int .i64 (r.bytes : Int))]) := by rw [hv2]; exact (hk _ hyn).trans hc
    have r4 : (n == N.lv) = false := nb (by omega)
    have r5 : (n == x.val) = false := nb (by rw [hv2]; omega)
    have hw : IntKind.i64.wrap ((m : Int) + (r.bytes : Int)) = ((m + r.bytes : Nat) : Int) := by
      rw [← Int.natCast_add]; exact IntWalk.i64_in _ (by omega)
    simp only [intA, ptrA] at hfb
    simp only [push_cast, Nat.reduceBEq, Nat.reduceAdd, Nat.reduceEqDiff, reduceCtorEq, Nat.reduceLeDiff, Nat.reduceSub, Nat.reduceMul, Nat.reduceLT, Int.reduceEq, Int.reduceLT, Int.reduceLE, Int.reduceBEq, Int.reduceBNe, Int.reduceToNat, Int.reduceNeg, Int.reduceSub, Int.reduceAdd, Ent.me, intA, ptrA, lv4, List.getLast?_concat, hfb, r4, r5, hc4, hw]
    refine ⟨_, hll, seen ++ [x.born], m + r.bytes, _, rfl, fun j hj => ?_, upd_same _ _ _, by omega, rfl⟩
    rw [upd_other (by omega)]; exact hk j hj
end
end Go.Proofs.Ytndojmpgadbefaa
