/- keep.Cut: its walk over a heap. -/
import Derived.Test.YticplbnnmajcpaaKkCut
set_option linter.unusedVariables false
set_option linter.unusedSimpArgs false
namespace Go.Proofs.Yticplbnnmajcpaa
open Go Go.RowKit Hv
/-- The pieces: each is a row of its own. -/
structure CutO (H0 : Hp) (n0 : Nat) (H : Hp) (m po : Nat) (out : List (Nat × List CellD)) : Prop where
  hp : H po = some (.row false 22 (out.map fun q => [pcA q]))
  hq : ∀ q ∈ out, H q.1 = some (.row true 35 (q.2.map cellH)) ∧ n0 ≤ q.1 ∧ q.1 < m
  nd : (out.map (·.1)).Nodup
  old : ∀ j, j < n0 → H j = H0 j
  bp : n0 ≤ po ∧ po < m
theorem CutI.done {H0 H : Hp} {n0 m po nn : Nat} {out : List (Nat × List CellD)} {now : List CellD} (h : CutI H0 n0 H m po nn out now) : CutO H0 n0 H m po out :=
  ⟨h.hp, fun q hq => ⟨(h.hq q hq).1, (h.hq q hq).2.2⟩, h.nd, h.old, h.bp⟩
theorem CutI.last {H0 H : Hp} {n0 m po nn p' : Nat} {out : List (Nat × List CellD)} {now : List CellD} {oo : Option AO} (h : CutI H0 n0 H m po nn out now) (hp' : m ≤ p') :
    CutO H0 n0 (upd (upd H po oo) p' (some (.row false 22 ((out ++ [(nn, now)]).map fun q => [pcA q])))) (p' + 1) p' (out ++ [(nn, now)]) := by
  have hne := h.ne
  have hnq := fun q hq => h.nq (q := q) hq
  obtain ⟨h1, h2, h3, h4, h5, h6, h7⟩ := h
  refine ⟨upd_same _ _ _, fun q hq => ?_, ?_, fun i hi => by rw [upd_other (by omega), upd_other (by omega)]; exact h5 i hi, ⟨by omega, by omega⟩⟩
  · rcases List.mem_append.1 hq with hq | hq
    · obtain ⟨a, b, c, d⟩ := h3 q hq
      exact ⟨by rw [upd_other (by omega), upd_other (fun e => hnq q hq e.symm)]; exact a, c, by omega⟩
    · rw [List.mem_singleton.1 hq]
      exact ⟨by rw [upd_other (show p' ≠ nn by omega), upd_other hne]; exact h2, h7.1, by show nn < p' + 1; omega⟩
  · rw [List.map_append, List.nodup_append]
    refine ⟨h4, by simp, fun a ha b hb e => ?_⟩
    obtain ⟨q, hq, rfl⟩ := List.mem_map.1 ha
    simp only [List.map_cons, List.map_nil, List.mem_singleton] at hb
    exact (h3 q hq).2.1 (e.trans hb)
theorem CutI.new {H0 : Hp} {n0 : Nat} {oo : Option AO} : CutI H0 n0 (upd (upd (upd H0 n0 oo) (n0 + 1) (some (.row false 22 []))) (n0 + 1 + 1) (some (.row true 35 []))) (n0 + 1 + 1 + 1) (n0 + 1) (n0 + 1 + 1) [] [] :=
  ⟨by rw [upd_other (by omega)]; exact upd_same _ _ _, upd_same _ _ _, fun q hq => by simp at hq, List.nodup_nil, fun j hj => by rw [upd_other (by omega), upd_other (by omega), upd_other (by omega)], ⟨by omega, by omega⟩, ⟨by omega, by omega⟩⟩
theorem out_more (out : List (Nat × List CellD)) (q : Nat × List CellD) : ((out ++ [q]).map fun q => [pcA q]) = (out.map fun q => [pcA q]) ++ [[pcA q]] := by rw [List.map_append]; rfl
set_option maxRecDepth 20000 in
set_option maxHeartbeats 4000000 in
theorem Cut_h {H0 : Hp} {n0 : Nat} (l : List CellD) (hr : rightL l = true) (hl : l.length ≤ 1000000) :
    HCalls Try.prog 9 [.sl (l.map cellH), .lit (.int .i64 3)] H0 n0 fun r H' n' => ∃ p out, r = .tup [.rw p 1 0 out.length, .lit (.int .i64 0)] ∧ CutO H0 n0 H' n' p out ∧ out.map (·.2) = cutP2 (heavy 3) [] (grp l) := by
  refine hcallsC_of (rs := [.tmp 4, .tmp 5]) ⟨[0, 1, 4, 5, 6, 7, 8, 10, 11, 14, 19, 20, 21, 22, 27, 46], [7], [], [], [], []⟩ TOk mixed Try.func9 rfl rfl (by kernel_rfl) (by kernel_rfl) rfl ?_
  have k1 := right_h l
  rw [hr] at k1
  simp only [push_cast, Nat.reduceBEq, Nat.reduceAdd, Nat.reduceEqDiff, reduceCtorEq, Nat.reduceLeDiff, Nat.reduceSub, Nat.reduceMul, Nat.reduceLT, Int.reduceEq, Int.reduceLT, Int.reduceLE, Int.reduceBEq, Int.reduceBNe, Int.reduceToNat, Int.reduceNeg, Int.reduceSub, Int.reduceAdd, show ¬ (3 : Int) < 1 by decide, nbq1_0, nbq2_0, nbq0_1, nbq0_2, nbq1_2]
  refine callK k1 ?_
  simp only [push_cast, Nat.reduceBEq, Nat.reduceAdd, Nat.reduceEqDiff, reduceCtorEq, Nat.reduceLeDiff, Nat.reduceSub, Nat.reduceMul, Nat.reduceLT, Int.reduceEq, Int.reduceLT, Int.reduceLE, Int.reduceBEq, Int.reduceBNe, Int.reduceToNat, Int.reduceNeg, Int.reduceSub, Int.reduceAdd]
  refine callK (keys_h l hl) ?_
  simp only [push_cast, Nat.reduceBEq, Nat.reduceAdd, Nat.reduceEqDiff, reduceCtorEq, Nat.reduceLeDiff, Nat.reduceSub, Nat.reduceMul, Nat.reduceLT, Int.reduceEq, Int.reduceLT, Int.reduceLE, Int.reduceBEq, Int.reduceBNe, Int.reduceToNat, Int.reduceNeg, Int.reduceSub, Int.reduceAdd]
  obtain ⟨gs, hgs⟩ : ∃ gs, grp l = gs := ⟨_, rfl⟩
  have hlen0 : (grp l).length ≤ l.length ∧ (grp l).flatten.length = l.length := by
    have h1 := grp_flat l
    refine ⟨?_, by rw [h1]⟩
    clear k1 hr hl hgs
    induction l with
    | nil => exact Nat.le_refl _
    | cons c l ih =>
      have ih := ih (grp_flat l)
      rw [grp]
      split
      · simp
      · rename_i g gs hg
        rw [hg] at ih
        simp only [List.length_cons] at ih
        split <;> simp only [List.length_cons] <;> omega
  obtain ⟨hlens, hfl⟩ := hlen0
  rw [hgs] at hlens hfl
  rw [hgs]
  refine loopK (fun n s => ∃ (k : Nat) (out : List (Nat × List CellD)) (now : List CellD) (H : Hp) (m po nn c d : Nat), k ≤ gs.length ∧ out.length ≤ k ∧ c = out.length ∧ d = now.length ∧ now.length + (gs.drop k).flatten.length ≤ l.length ∧ out.map (·.2) ++ cutP2 (heavy 3) now (gs.drop k) = cutP2 (heavy 3) [] gs ∧ CutI H0 n0 H m po nn out now ∧ n = gs.length - k ∧
      s = ⟨[(1, .lit (.int .i64 3)), (6, .rw po 1 0 c), (7, .rw nn 4 0 d), (8, .lit (.int .i64 (IntKind.i64.wrap (wt now)))), (19, .sl (gs.map fun g => [AV.sl (g.map cellH)])), (20, .lit (.int .i64 gs.length)), (21, .lit (.int .i64 k))], H, m⟩)
    _ [1, 6, 7, 8, 19, 20, 21] ⟨0, [], [], _, _, n0 + 1, n0 + 1 + 1, 0, 0, Nat.zero_le _, Nat.le_refl _, rfl, rfl, (by exact (by rw [List.drop_zero, List.length_nil, hfl]; omega)), rfl, (by exact CutI.new), rfl, rfl⟩ ?_
  rintro n _ ⟨k, out, now, H, m, po, nn, _, _, hk, ho, rfl, rfl, hnl, heq, hI, rfl, rfl⟩
  have hp := hI.hp
  have hn := hI.hn
  have hne := hI.ne
  have bp := hI.bp.2
  have bn := hI.bn.2
  have hcl : ∀ (l : List CellD), (l.map cellH).length = l.length := fun l => List.length_map ..
  by_cases h : k < gs.length
  · obtain ⟨g, hg⟩ : ∃ g, gs[k]? = some g := ⟨_, List.getElem?_eq_getElem h⟩
    have hdr : gs.drop k = g :: gs.drop (k + 1) := by
      rw [List.drop_eq_getElem_cons h]
      congr 1
      exact (List.getElem?_eq_some_iff.1 hg).2
    rw [hdr] at heq hnl
    simp only [List.flatten_cons, List.length_append] at hnl
    have hw := wrap_nat (k := k) (by omega)
    have hb1 : (out.length + 1) * 24 ≤ 140737488355328 := by omega
    have hb2 : (now.length + g.length) * 48 ≤ 140737488355328 := by omega
    have hb3 : g.length * 48 ≤ 140737488355328 := by omega
    have hgl : g.length ≤ 1000000 := by omega
    have en : ∀ m : List CellD, IntKind.i64.wrap (IntKind.i64.wrap (IntKind.i64.wrap (wt m) + wgt g) + IntKind.i64.wrap (16 * (g.length : Int))) = IntKind.i64.wrap (wt (m ++ g)) := fun m => by
      unfold wgt
      rw [wrap3, wt_append, wt_wgt g]
      congr 1
      omega
    have en0 : IntKind.i64.wrap (IntKind.i64.wrap (0 + wgt g) + IntKind.i64.wrap (16 * (g.length : Int))) = IntKind.i64.wrap (wt g) := by
      have := en []
      rw [show IntKind.i64.wrap (wt []) = 0 from rfl] at this
      simpa using this
    rw [cutP2] at heq
    unfold heavy at heq
    cases hv : decide (3 ≤ IntKind.i64.wrap (wt now)) with
    | true =>
      rw [hv, if_pos rfl] at heq
      have hv' : (3 ≤ IntKind.i64.wrap (wt now)) = True := by simpa using hv
      simp (disch := omega) only [push_cast, Hv.neB, Nat.reduceBEq, Nat.reduceAdd, Nat.reduceEqDiff, reduceCtorEq, Nat.reduceLeDiff, Nat.reduceSub, Nat.reduceMul, Nat.reduceLT, Int.reduceEq, Int.reduceLT, Int.reduceLE, Int.reduceBEq, Int.reduceBNe, Int.reduceToNat, Int.reduceNeg, Int.reduceSub, Int.reduceAdd, h, hg, hw, hb1, hb3, ge_iff_le, hv', cellH_len, hp, hn, hcl, oldF]
      refine callK (weight_h g hgl) ?_
      simp (disch := omega) only [push_cast, Hv.neB, Nat.reduceBEq, Nat.reduceAdd, Nat.reduceEqDiff, reduceCtorEq, Nat.reduceLeDiff, Nat.reduceSub, Nat.reduceMul, Nat.reduceLT, Int.reduceEq, Int.reduceLT, Int.reduceLE, Int.reduceBEq, Int.reduceBNe, Int.reduceToNat, Int.reduceNeg, Int.reduceSub, Int.reduceAdd, hw, en0]
      have q1 := ((hI.else (j := m) (m' := m + 1) (oo := some (.row false 22 [[pcA (nn, now)]])) (Nat.le_refl _) (by omega)).flush (oo := oldO false 22 (out.map fun q => [pcA q])) (p' := m + 1) (n' := m + 1 + 1) (g := []) (Nat.le_refl _) (by omega)).grow (oo := none) (n' := m + 1 + 1 + 1) (now' := g) (by omega)
      rw [out_more] at q1
      refine ⟨_, by omega, k + 1, out ++ [(nn, now)], g, _, _, _, _, _, _, by omega, by simp; omega, (by simp), rfl, by omega, ?_, q1, rfl, rfl⟩
      rw [List.map_append, List.append_assoc]
      exact heq
    | false =>
      have hv' : (3 ≤ IntKind.i64.wrap (wt now)) = False := by simpa using hv
      rw [hv, if_neg (by simp)] at heq
      simp (disch := omega) only [push_cast, Hv.neB, Nat.reduceBEq, Nat.reduceAdd, Nat.reduceEqDiff, reduceCtorEq, Nat.reduceLeDiff, Nat.reduceSub, Nat.reduceMul, Nat.reduceLT, Int.reduceEq, Int.reduceLT, Int.reduceLE, Int.reduceBEq, Int.reduceBNe, Int.reduceToNat, Int.reduceNeg, Int.reduceSub, Int.reduceAdd, h, hg, hw, hb1, hb2, ge_iff_le, hv', cellH_len, hp, hn, hcl, oldF]
      refine callK (weight_h g hgl) ?_
      simp (disch := omega) only [push_cast, Hv.neB, Nat.reduceBEq, Nat.reduceAdd, Nat.reduceEqDiff, reduceCtorEq, Nat.reduceLeDiff, Nat.reduceSub, Nat.reduceMul, Nat.reduceLT, Int.reduceEq, Int.reduceLT, Int.reduceLE, Int.reduceBEq, Int.reduceBNe, Int.reduceToNat, Int.reduceNeg, Int.reduceSub, Int.reduceAdd, hw, en]
      have q1 := hI.grow (oo := none) (n' := m) (now' := now ++ g) (Nat.le_refl _)
      rw [List.map_append] at q1
      exact ⟨_, by omega, k + 1, out, now ++ g, _, _, _, _, _, _, by omega, by omega, rfl, (by simp), by rw [List.length_append]; omega, heq, q1, rfl, rfl⟩
  · obtain rfl : k = gs.length := by omega
    rw [List.drop_length] at heq
    have hb1 : (out.length + 1) * 24 ≤ 140737488355328 := by omega
    cases now with
    | nil =>
      have heq' : out.map (·.2) = cutP2 (heavy 3) [] gs := by simpa [cutP2] using heq
      simp (disch := omega) only [push_cast, Hv.neB, Nat.reduceBEq, Nat.reduceAdd, Nat.reduceEqDiff, reduceCtorEq, Nat.reduceLeDiff, Nat.reduceSub, Nat.reduceMul, Nat.reduceLT, Int.reduceEq, Int.reduceLT, Int.reduceLE, Int.reduceBEq, Int.reduceBNe, Int.reduceToNat, Int.reduceNeg, Int.reduceSub, Int.reduceAdd, h, gt_iff_lt, Int.natCast_zero, Int.lt_irrefl, hp, hn]
      exact ⟨_, out, rfl, hI.done, heq'⟩
    | cons c now =>
      have heq' : (out ++ [(nn, c :: now)]).map (·.2) = cutP2 (heavy 3) [] gs := by rw [List.map_append]; simpa [cutP2] using heq
      have hpos : ((0 : Int) < ((now.length + 1 : Nat) : Int)) = True := by simp
      obtain ⟨D, hD⟩ : ∃ D, (c :: now).length = D := ⟨_, rfl⟩
      have hpos : ((0 : Int) < (D : Int)) = True := by simp; rw [← hD]; simp
      rw [hD]
      simp (disch := omega) only [push_cast, Hv.neB, Nat.reduceBEq, Nat.reduceAdd, Nat.reduceEqDiff, reduceCtorEq, Nat.reduceLeDiff, Nat.reduceSub, Nat.reduceMul, Nat.reduceLT, Int.reduceEq, Int.reduceLT, Int.reduceLE, Int.reduceBEq, Int.reduceBNe, Int.reduceToNat, Int.reduceNeg, Int.reduceSub, Int.reduceAdd, h, hb1, gt_iff_lt, hpos, hp, hn]
      have q1 := (hI.else (j := m) (m' := m + 1) (oo := some (.row false 22 [[pcA (nn, c :: now)]])) (Nat.le_refl _) (by omega)).last (oo := oldO false 22 (out.map fun q => [pcA q])) (p' := m + 1) (Nat.le_refl _)
      rw [out_more] at q1
      have e : pcA (nn, c :: now) = .rw nn 4 0 D := by rw [← hD]; rfl
      rw [e] at q1
      exact ⟨_, out ++ [(nn, c :: now)], (by rw [List.length_append]; rfl), q1, heq'⟩
end Go.Proofs.Yticplbnnmajcpaa
