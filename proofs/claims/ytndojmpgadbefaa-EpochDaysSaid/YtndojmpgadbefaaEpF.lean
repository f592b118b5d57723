/- Pools: a region goes; by the walk over a heap. -/
import Derived.Test.YtndojmpgadbefaaEpB
set_option linter.unusedVariables false
set_option linter.unusedSimpArgs false
namespace Go.Proofs.Ytndojmpgadbefaa
open Go Go.RowKit Hv
set_option maxRecDepth 20000
set_option maxHeartbeats 4000000
def PoolD.wipe1 (d : PoolD) (s : Nat) : PoolD := ⟨d.size, d.slabs.set s (List.replicate d.size 221), d.taken.set s false, d.lands⟩
def PoolD.wiped (d : PoolD) (l : List Nat) : PoolD := l.foldl PoolD.wipe1 d
theorem wiped_snoc (d : PoolD) (l : List Nat) (s : Nat) : d.wiped (l ++ [s]) = (d.wiped l).wipe1 s := by unfold PoolD.wiped; rw [List.foldl_append]; rfl
theorem wiped_lands : ∀ (l : List Nat) (d : PoolD), (d.wiped l).lands = d.lands ∧ (d.wiped l).size = d.size ∧ (d.wiped l).slabs.length = d.slabs.length ∧ (d.wiped l).taken.length = d.taken.length
  | [], d => ⟨rfl, rfl, rfl, rfl⟩
  | s :: l, d => by
    obtain ⟨h1, h2, h3, h4⟩ := wiped_lands l (d.wipe1 s)
    exact ⟨h1, h2, h3.trans (List.length_set ..), h4.trans (List.length_set ..)⟩
def PoolD.freed (d : PoolD) (i : Nat) (l : LandD) : PoolD := ⟨d.size, (d.wiped l.slabs).slabs, (d.wiped l.slabs).taken, d.lands.set i ⟨false, l.gen, [], 0⟩⟩
section
variable {H H' : Hp} {n n' p : Nat} {S : Nat → Prop} {d : PoolD} {N : PoolN}
theorem free_c (h : PoolH H n S p N d) {i : Nat} {l : LandD} (hl : d.lands[i]? = some l) (ht : l.there = true) :
    HCalls Try.prog 51 [.ptr p 0, .lit (.int .i64 (i : Int))] H n (PoolP H n S p (d.freed i l) (.lit (.int .i64 0))) := by
  refine hcallsC_of (rs := [.tmp 4]) ⟨[0, 1, 4, 5, 7, 8, 10, 15, 19, 20, 21, 22, 32, 33, 34], [], [], [], []⟩ TOk mixed Try.func51 rfl rfl (by kernel_rfl) (by kernel_rfl) rfl ?_
  simp only [push_cast, Nat.reduceBEq, Nat.reduceAdd, Nat.reduceEqDiff, reduceCtorEq, Nat.reduceLeDiff, Nat.reduceSub, Nat.reduceMul, Nat.reduceLT, Int.reduceEq, Int.reduceLT, Int.reduceLE, Int.reduceBEq, Int.reduceBNe, Int.reduceToNat, Int.reduceNeg, Int.reduceSub, Int.reduceAdd]
  refine callH (land_h h hl ht) ?_
  rintro _ H n ⟨rfl, rfl, rfl⟩
  have pl := h.pl
  obtain ⟨v, hv, hlv, hi, hd⟩ := h.at hl
  obtain ⟨r0, r1, r2, r3⟩ := drops (AV.lit (.int .i64 (d.size : Int))) (.rw N.gs 1 0 d.slabs.length) (.rw N.gt 1 0 d.slabs.length) hd
  obtain ⟨o1, o2, o3, o4, _⟩ := h.ok.ls l (List.mem_of_getElem? hl)
  have hsz := h.ok.sz
  have hlen : 3 + i * 4 + 1 ≤ (landsC d.lands N.gl).length := by rw [landsC_len (h.ok.ll.trans h.gl.symm), h.ok.ll]; omega
  have hst := stores (l' := ⟨false, l.gen, [], 0⟩) (v' := nilV) (AV.lit (.int .i64 (d.size : Int))) (.rw N.gs 1 0 d.slabs.length) (.rw N.gt 1 0 d.slabs.length) hl hv (a := .lit (.bool false)) (g := .lit (.int .i64 (l.gen : Int))) (f := .lit (.int .i64 0)) rfl
  unfold nilV at hst
  rcases hlv with ⟨q1, q2⟩ | ⟨g, q1, q2, q3, q4⟩
  · subst q1
    unfold nilV at r0 r1 r2
    simp only [push_cast, Nat.reduceBEq, Nat.reduceAdd, Nat.reduceEqDiff, reduceCtorEq, Nat.reduceLeDiff, Nat.reduceSub, Nat.reduceMul, Nat.reduceLT, Int.reduceEq, Int.reduceLT, Int.reduceLE, Int.reduceBEq, Int.reduceBNe, Int.reduceToNat, Int.reduceNeg, Int.reduceSub, Int.reduceAdd, pl, r0, r1, r2, r3]
    refine loopK (fun q s => s = ⟨[(0, .ptr p 0), (5, .ptr p (3 + i * 4)), (19, .lit (.slice none 0 0)), (20, .lit (.int .i64 0)), (21, .lit (.int .i64 0))], H, n⟩) 0 [0, 5, 19, 20, 21] rfl ?_
    rintro q _ rfl
    simp only [push_cast, Nat.reduceBEq, Nat.reduceAdd, Nat.reduceEqDiff, reduceCtorEq, Nat.reduceLeDiff, Nat.reduceSub, Nat.reduceMul, Nat.reduceLT, Int.reduceEq, Int.reduceLT, Int.reduceLE, Int.reduceBEq, Int.reduceBNe, Int.reduceToNat, Int.reduceNeg, Int.reduceSub, Int.reduceAdd, pl, r0, r1, r2, r3, hlen, hst]
    have e : d.freed i l = ⟨d.size, d.slabs, d.taken, d.lands.set i ⟨false, l.gen, [], 0⟩⟩ := by unfold PoolD.freed; rw [q2]; rfl
    rw [e]
    exact ⟨rfl, S, ⟨_, h.empty hl rfl rfl (Nat.le_refl _) (upd_same _ _ _) fun j hj => upd_other (Ne.symm hj)⟩, Nat.le_refl _, fun j hj hs => ⟨upd_other fun e => hs (by rw [← e]; exact h.Sp.1), hs⟩⟩
  · subst q1
    rw [← stopC_eq (Code.seq (Code.region 16 _ _) _)]
    simp only [push_cast, Nat.reduceBEq, Nat.reduceAdd, Nat.reduceEqDiff, reduceCtorEq, Nat.reduceLeDiff, Nat.reduceSub, Nat.reduceMul, Nat.reduceLT, Int.reduceEq, Int.reduceLT, Int.reduceLE, Int.reduceBEq, Int.reduceBNe, Int.reduceToNat, Int.reduceNeg, Int.reduceSub, Int.reduceAdd, pl, r0, r1, r2, r3]
    refine loopK (fun q s => ∃ (k : Nat) (Hk : Hp), s = ⟨[(0, .ptr p 0), (5, .ptr p (3 + i * 4)), (19, .rw g 1 0 l.slabs.length), (20, .lit (.int .i64 (l.slabs.length : Int))), (21, .lit (.int .i64 (k : Int)))], Hk, n⟩ ∧ k ≤ l.slabs.length ∧ q = l.slabs.length - k ∧ PoolH Hk n S p N (d.wiped (l.slabs.take k)) ∧ ∀ j, ¬ S j → Hk j = H j) _ [0, 5, 19, 20, 21] ⟨0, H, rfl, Nat.zero_le _, rfl, h, fun _ _ => rfl⟩ ?_
    rintro q _ ⟨k, Hk, rfl, hk, rfl, hw, hfr⟩
    obtain ⟨wl, ws, wn, wt⟩ := wiped_lands (l.slabs.take k) d
    have plk := hw.pl
    have hgs := hw.gs
    have hgt := hw.gt
    rw [wl, ws, wn] at plk
    rw [ws] at hgs
    by_cases hkl : k < l.slabs.length
    · have hkl' : (k : Int) < (l.slabs.length : Int) := by omega
      obtain ⟨s, hs⟩ : ∃ s, l.slabs[k]? = some s := ⟨_, List.getElem?_eq_getElem hkl⟩
      have hsk := o2 s (List.mem_of_getElem? hs)
      have hsk' : (s : Int) < (d.slabs.length : Int) := by omega
      obtain ⟨sb, hsb⟩ : ∃ b, N.sb[s]? = some b := ⟨_, List.getElem?_eq_getElem (by rw [h.sl]; exact hsk)⟩
      obtain ⟨bs, hbs⟩ : ∃ b, (d.wiped (l.slabs.take k)).slabs[s]? = some b := ⟨_, List.getElem?_eq_getElem (by rw [wn]; exact hsk)⟩
      obtain ⟨hsr, hsS⟩ := hw.sb s sb bs hsb hbs
      have hbl := hw.ok.bs bs (List.mem_of_getElem? hbs)
      rw [ws] at hbl
      have hgk : Hk g = some (.row false 3 (l.slabs.map natI)) := by
        rcases hw.ln i l _ (by rw [wl]; exact hl) hv with ⟨e, _⟩ | ⟨g', e1, e2, _⟩
        · cases e
        · injection e1 with e1
          rw [e1]; exact e2
      have hbl2 : Nat.ble d.slabs.length N.sb.length = true := by rw [Nat.ble_eq, h.sl]; exact Nat.le_refl _
      have htk : List.take d.slabs.length (N.sb.map (slabI d.size)) = N.sb.map (slabI d.size) := List.take_of_length_le (by rw [List.length_map, h.sl]; exact Nat.le_refl _)
      have hbl3 : Nat.ble l.slabs.length l.slabs.length = true := Nat.ble_self_eq_true _
      have htk3 : List.take l.slabs.length (l.slabs.map natI) = l.slabs.map natI := List.take_of_length_le (by rw [List.length_map]; exact Nat.le_refl _)
      have hwk := wrap_nat0 (k := k) (by omega)
      obtain ⟨n1, n2, n3⟩ := hw.nes
      obtain ⟨m1, m2, m3⟩ := hw.nesB hsr
      simp only [push_cast, Nat.reduceBEq, Nat.reduceAdd, Nat.reduceEqDiff, reduceCtorEq, Nat.reduceLeDiff, Nat.reduceSub, Nat.reduceMul, Nat.reduceLT, Int.reduceEq, Int.reduceLT, Int.reduceLE, Int.reduceBEq, Int.reduceBNe, Int.reduceToNat, Int.reduceNeg, Int.reduceSub, Int.reduceAdd, hkl, hkl', hgk, hs, natI, htk3, hbl3, plk, hgs, hsb, slabI, hbl2, htk, hsk']
      refine loopK (fun q s' => ∃ (j : Nat) (H2 : Hp), s' = ⟨[(0, .ptr p 0), (5, .ptr p (3 + i * 4)), (7, .lit (.int .i64 (s : Int))), (19, .rw g 1 0 l.slabs.length), (20, .lit (.int .i64 (l.slabs.length : Int))), (21, .lit (.int .i64 (k : Int))), (32, .lit (.int .i64 (d.size : Int))), (33, .lit (.int .i64 (j : Int)))], H2, n⟩ ∧ j ≤ d.size ∧ q = d.size - j ∧ H2 sb = some (.row true 5 ((List.replicate j 221 ++ bs.drop j).map byteA)) ∧ ∀ x, x ≠ sb → H2 x = Hk x) _ [0, 5, 7, 19, 20, 21, 32, 33] ⟨0, Hk, rfl, Nat.zero_le _, rfl, hsr, fun _ _ => rfl⟩ ?_
      rintro q _ ⟨j, H2, rfl, hj, rfl, h2s, h2f⟩
      have pl2 := (h2f p (Ne.symm m1)).trans plk
      have gs2 := (h2f N.gs (Ne.symm m2)).trans hgs
      have gt2 := (h2f N.gt (Ne.symm m3)).trans hgt
      have hwj := wrap_nat0 (k := j) (by omega)
      by_cases hjd : j < d.size
      · have hjd' : (j : Int) < (d.size : Int) := by omega
        obtain ⟨x, hx⟩ : ∃ x, (List.replicate j (221 : UInt8) ++ bs.drop j)[j]? = some x := ⟨_, List.getElem?_eq_getElem (by simp; omega)⟩
        have hset : ((List.replicate j (221 : UInt8) ++ bs.drop j).map byteA).set j [.lit (.int .u8 221)] = (List.replicate (j + 1) (221 : UInt8) ++ bs.drop (j + 1)).map byteA := by
          rw [show ([.lit (.int .u8 221)] : List AV) = byteA 221 from rfl, ← List.map_set]
          congr 1
          rw [List.set_append_right _ _ (by simp), List.length_replicate, Nat.sub_self, List.replicate_succ', List.append_assoc]
          congr 1
          rw [List.drop_eq_getElem_cons (by omega : j < bs.length)]; rfl
        simp only [push_cast, Nat.reduceBEq, Nat.reduceAdd, Nat.reduceEqDiff, reduceCtorEq, Nat.reduceLeDiff, Nat.reduceSub, Nat.reduceMul, Nat.reduceLT, Int.reduceEq, Int.reduceLT, Int.reduceLE, Int.reduceBEq, Int.reduceBNe, Int.reduceToNat, Int.reduceNeg, Int.reduceSub, Int.reduceAdd, hjd, hjd', pl2, gs2, hsb, slabI, hbl2, htk, hsk', h2s, hx, hset, hwj, byteA]
        exact ⟨_, by omega, j + 1, _, rfl, hjd, rfl, upd_same _ _ _, fun x hx => by rw [upd_other (Ne.symm hx)]; exact h2f x hx⟩
      · have hje : j = d.size := by omega
        subst hje
        rw [List.drop_of_length_le (by omega), List.append_nil] at h2s
        have htl := hw.ok.tl
        rw [wn] at htl
        have hbl4 : Nat.ble d.slabs.length (d.wiped (l.slabs.take k)).taken.length = true := by rw [Nat.ble_eq, htl]; exact Nat.le_refl _
        obtain ⟨t, ht'⟩ : ∃ t, (d.wiped (l.slabs.take k)).taken[s]? = some t := ⟨_, List.getElem?_eq_getElem (by rw [htl]; exact hsk)⟩
        have hset2 : ((d.wiped (l.slabs.take k)).taken.map boolI).set s [.lit (.bool false)] = ((d.wiped (l.slabs.take k)).taken.set s false).map boolI := by rw [List.map_set]; rfl
        have c1 := nb n1
        simp only [push_cast, Nat.reduceBEq, Nat.reduceAdd, Nat.reduceEqDiff, reduceCtorEq, Nat.reduceLeDiff, Nat.reduceSub, Nat.reduceMul, Nat.reduceLT, Int.reduceEq, Int.reduceLT, Int.reduceLE, Int.reduceBEq, Int.reduceBNe, Int.reduceToNat, Int.reduceNeg, Int.reduceSub, Int.reduceAdd, hjd, pl2, gt2, hsk', ht', boolI, hbl4, hwk]
        refine ⟨_, by omega, k + 1, _, rfl, hkl, rfl, ?_, fun x hx => ?_⟩
        · rw [List.take_add_one, hs]
          show PoolH _ n S p N (d.wiped (l.slabs.take k ++ [s]))
          rw [wiped_snoc]
          have hT := hw.took (s := s) (sb := sb) (c := List.replicate d.size 221) (b := false) (H' := upd H2 N.gt (some (.row true 4 (((d.wiped (l.slabs.take k)).taken.map boolI).set s [.lit (.bool false)])))) (by rw [wn]; exact hsk) hsb (by rw [List.length_replicate, ws]) (by rw [upd_same, hset2]) (by rw [upd_other (Ne.symm m3)]; exact h2s) (fun x q1 q2 => by rw [upd_other (Ne.symm q1)]; exact h2f x q2)
          unfold PoolD.wipe1
          rw [ws]
          rw [ws] at hT
          exact hT
        · rw [upd_other (fun e => hx (by rw [← e]; exact h.Sp.2.2)), h2f x (fun e => hx (by rw [e]; exact hsS))]
          exact hfr x hx
    · have hke : k = l.slabs.length := by omega
      subst hke
      rw [List.take_length] at hw wl ws wn
      simp only [push_cast, Nat.reduceBEq, Nat.reduceAdd, Nat.reduceEqDiff, reduceCtorEq, Nat.reduceLeDiff, Nat.reduceSub, Nat.reduceMul, Nat.reduceLT, Int.reduceEq, Int.reduceLT, Int.reduceLE, Int.reduceBEq, Int.reduceBNe, Int.reduceToNat, Int.reduceNeg, Int.reduceSub, Int.reduceAdd, hkl, show ¬ (l.slabs.length : Int) < (l.slabs.length : Int) by omega]
      rw [stopC_eq]
      simp only [push_cast, Nat.reduceBEq, Nat.reduceAdd, Nat.reduceEqDiff, reduceCtorEq, Nat.reduceLeDiff, Nat.reduceSub, Nat.reduceMul, Nat.reduceLT, Int.reduceEq, Int.reduceLT, Int.reduceLE, Int.reduceBEq, Int.reduceBNe, Int.reduceToNat, Int.reduceNeg, Int.reduceSub, Int.reduceAdd, plk, r0, r1, r2, r3, hlen, hst]
      have hE := hw.empty (H' := upd Hk p (some (.cells (.lit (.int .i64 (d.size : Int)) :: .rw N.gs 1 0 d.slabs.length :: .rw N.gt 1 0 d.slabs.length :: landsC (d.lands.set i ⟨false, l.gen, [], 0⟩) (N.gl.set i nilV))))) (i := i) (l := l) (l' := ⟨false, l.gen, [], 0⟩) (by rw [wl]; exact hl) rfl rfl (Nat.le_refl _) (by rw [upd_same, wl, ws, wn]) (fun j hj => upd_other (Ne.symm hj))
      refine ⟨rfl, S, ⟨⟨N.gs, N.gt, N.sb, N.gl.set i nilV⟩, ?_⟩, Nat.le_refl _, fun j hj hs => ⟨?_, hs⟩⟩
      · unfold PoolD.freed
        rw [ws, wl] at hE
        exact hE
      · rw [upd_other (fun e => hs (by rw [← e]; exact h.Sp.1))]
        exact hfr j hs
end
end Go.Proofs.Ytndojmpgadbefaa
