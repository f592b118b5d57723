/- The reference's pools: a region goes; a new pool. -/
import Derived.Test.YtndojmpgadbefaaEpRA
set_option linter.unusedVariables false
set_option linter.unusedSimpArgs false
namespace Go.Proofs.Ytndojmpgadbefaa
open Go Go.RowKit Hv
set_option maxRecDepth 20000
set_option maxHeartbeats 4000000
section
variable {H H' : Hp} {n n' p : Nat} {S : Nat → Prop} {d : PoolD} {N : RPN} {O : List Int}
theorem fill_set {m k : Nat} (hk : k < m) (a b : UInt8) : (byL (List.replicate k a ++ List.replicate (m - k) b)).set k [.lit (.int .u8 (a.toNat : Int))] = byL (List.replicate (k + 1) a ++ List.replicate (m - (k + 1)) b) := by
  unfold byL
  rw [show ([.lit (.int .u8 (a.toNat : Int))] : List AV) = byteA a from rfl, ← List.map_set]
  congr 1
  rw [List.set_append_right _ _ (by simp), List.length_replicate, Nat.sub_self, List.replicate_succ', List.append_assoc]
  congr 1
  rw [show m - k = (m - (k + 1)) + 1 by omega, List.replicate_succ]; rfl
theorem rfree_c (h : RPH H n S p N d O) {i : Nat} {l : LandD} (hl : d.lands[i]? = some l) (ht : l.there = true) :
    HCalls Try.prog 52 [.ptr p 0, .lit (.int .i64 (i : Int))] H n (RPP H n S p (d.freed i l) (.lit (.int .i64 0))) := by
  refine hcallsC_of (rs := [.tmp 4]) ⟨[0, 1, 4, 5, 6, 7, 8, 12, 23, 38], [17], [], [(12, [(0, [], []), (1, [], []), (2, [], []), (3, [], []), (4, [], []), (5, [], []), (6, [], []), (7, [], []), (8, [], [7, 6, 0, 1, 2, 3, 4, 5])]), (14, [(0, [], []), (1, [], []), (2, [], []), (3, [], []), (4, [], []), (5, [], []), (6, [], []), (7, [], []), (8, [], []), (9, [], []), (10, [], []), (11, [], []), (12, [], []), (13, [], [12, 9, 0, 1, 2, 3, 4, 5, 6, 7, 8, 11, 10])])], [8]⟩ TOk mixed Try.func52 rfl rfl (by kernel_rfl) (by kernel_rfl) rfl ?_
  have hpn := h.lt p h.Sp.1
  simp only [push_cast, Nat.reduceBEq, Nat.reduceAdd, Nat.reduceEqDiff, reduceCtorEq, Nat.reduceLeDiff, Nat.reduceSub, Nat.reduceMul, Nat.reduceLT, Int.reduceEq, Int.reduceLT, Int.reduceLE, Int.reduceBEq, Int.reduceBNe, Int.reduceToNat, Int.reduceNeg, Int.reduceSub, Int.reduceAdd]
  refine callH (rthere_c h hl) ?_
  rintro _ H n ⟨rfl, rfl, rfl⟩
  have pl := h.pl
  have hsz := h.ok.sz
  have q7 : (d.size : Int) ≤ 140737488355328 := by omega
  have q8 : 1 * (d.size : Int) ≤ 140737488355328 := by omega
  have c1 : (n == p) = false := nb (by omega)
  simp only [push_cast, Nat.reduceBEq, Nat.reduceAdd, Nat.reduceEqDiff, reduceCtorEq, Nat.reduceLeDiff, Nat.reduceSub, Nat.reduceMul, Nat.reduceLT, Int.reduceEq, Int.reduceLT, Int.reduceLE, Int.reduceBEq, Int.reduceBNe, Int.reduceToNat, Int.reduceNeg, Int.reduceSub, Int.reduceAdd, pl, ht, q7, q8]
  refine cutK (fun s => ∃ H5, s = ⟨[(0, .ptr p 0), (1, .lit (.int .i64 (i : Int))), (5, .rw n 1 0 d.size)], H5, n + 1⟩ ∧ H5 n = some (.row true 5 (byL (List.replicate d.size 221))) ∧ ∀ j, j < n → H5 j = H j) [0, 1, 5] ?_ ?_
  · have hz0 : List.replicate d.size [AV.lit (.int .u8 0)] = byL (List.replicate 0 221 ++ List.replicate (d.size - 0) 0) := by
      unfold byL
      rw [Nat.sub_zero, List.replicate_zero, List.nil_append, List.map_replicate]; rfl
    simp only [push_cast, Nat.reduceBEq, Nat.reduceAdd, Nat.reduceEqDiff, reduceCtorEq, Nat.reduceLeDiff, Nat.reduceSub, Nat.reduceMul, Nat.reduceLT, Int.reduceEq, Int.reduceLT, Int.reduceLE, Int.reduceBEq, Int.reduceBNe, Int.reduceToNat, Int.reduceNeg, Int.reduceSub, Int.reduceAdd, pl, ht, q7, q8]
    refine loopK (fun q s => ∃ (k : Nat) (H5 : Hp), s = ⟨[(0, .ptr p 0), (1, .lit (.int .i64 (i : Int))), (5, .rw n 1 0 d.size), (6, .lit (.int .i64 (k : Int)))], H5, n + 1⟩ ∧ k ≤ d.size ∧ q = d.size - k ∧ H5 n = some (.row true 5 (byL (List.replicate k 221 ++ List.replicate (d.size - k) 0))) ∧ ∀ j, j < n → H5 j = H j) _ [0, 1, 5, 6] ⟨0, _, rfl, Nat.zero_le _, rfl, (upd_same _ _ _).trans (by rw [hz0]), fun j hj => upd_other (by omega)⟩ ?_
    rintro q _ ⟨k, H5, rfl, hk, rfl, h5n, k5⟩
    have pl5 := (k5 p hpn).trans pl
    by_cases hkd : k < d.size
    · have hkd' : (k : Int) < (d.size : Int) := by omega
      have hwk := wrap_nat0 (k := k) (by omega)
      obtain ⟨x, hx⟩ : ∃ x, (byL (List.replicate k (221 : UInt8) ++ List.replicate (d.size - k) 0))[k]? = some [x] := ⟨_, by unfold byL; rw [List.getElem?_map, List.getElem?_append_right (by simp), List.length_replicate, Nat.sub_self, List.getElem?_replicate, if_pos (by omega)]; rfl⟩
      have hset := fill_set hkd 221 0
      simp only [show (((221 : UInt8).toNat : Nat) : Int) = 221 from rfl] at hset
      simp only [push_cast, Nat.reduceBEq, Nat.reduceAdd, Nat.reduceEqDiff, reduceCtorEq, Nat.reduceLeDiff, Nat.reduceSub, Nat.reduceMul, Nat.reduceLT, Int.reduceEq, Int.reduceLT, Int.reduceLE, Int.reduceBEq, Int.reduceBNe, Int.reduceToNat, Int.reduceNeg, Int.reduceSub, Int.reduceAdd, pl5, hkd, hkd', h5n, hx, hset, hwk]
      exact ⟨_, by omega, k + 1, _, rfl, hkd, rfl, upd_same _ _ _, fun j hj => (upd_other (by omega)).trans (k5 j hj)⟩
    · have hkd' : ¬ (k : Int) < (d.size : Int) := by omega
      have hke : k = d.size := by omega
      subst hke
      rw [Nat.sub_self, List.replicate_zero, List.append_nil] at h5n
      simp only [push_cast, Nat.reduceBEq, Nat.reduceAdd, Nat.reduceEqDiff, reduceCtorEq, Nat.reduceLeDiff, Nat.reduceSub, Nat.reduceMul, Nat.reduceLT, Int.reduceEq, Int.reduceLT, Int.reduceLE, Int.reduceBEq, Int.reduceBNe, Int.reduceToNat, Int.reduceNeg, Int.reduceSub, Int.reduceAdd, pl5, hkd, hkd']
      exact ⟨_, rfl, h5n, k5⟩
  · rintro _ ⟨H5, rfl, h5n, k5⟩
    obtain ⟨v, hv, hlv, hi, hd⟩ := h.at hl
    obtain ⟨r0, r1, r2, r3⟩ := drops (AV.lit (.int .i64 (d.size : Int))) (.rw N.gb 1 0 d.slabs.length) (.rw N.go 1 0 d.slabs.length) hd
    obtain ⟨o1, o2, o3, o4, _⟩ := h.ok.ls l (List.mem_of_getElem? hl)
    have hi' : (i : Int) < 256 := by omega
    have h5 := h.frame (H' := H5) (n' := n) (Nat.le_refl _) fun j hj => k5 j (h.lt j hj)
    simp only [push_cast, Nat.reduceBEq, Nat.reduceAdd, Nat.reduceEqDiff, reduceCtorEq, Nat.reduceLeDiff, Nat.reduceSub, Nat.reduceMul, Nat.reduceLT, Int.reduceEq, Int.reduceLT, Int.reduceLE, Int.reduceBEq, Int.reduceBNe, Int.reduceToNat, Int.reduceNeg, Int.reduceSub, Int.reduceAdd]
    refine loopK (fun q s => ∃ (k : Nat) (H6 : Hp) (O6 : List Int), s = ⟨[(0, .ptr p 0), (1, .lit (.int .i64 (i : Int))), (5, .rw n 1 0 d.size), (7, .lit (.int .i64 (k : Int)))], H6, n + 1⟩ ∧ k ≤ l.slabs.length ∧ q = l.slabs.length - k ∧ RPH H6 n S p N (d.wiped (l.slabs.take k)) O6 ∧ H6 n = some (.row true 5 (byL (List.replicate d.size 221))) ∧ ∀ j, j < n → ¬ S j → H6 j = H j) _ [0, 1, 5, 7] ⟨0, H5, O, rfl, Nat.zero_le _, rfl, h5, h5n, fun j hj _ => k5 j hj⟩ ?_
    rintro q _ ⟨k, H6, O6, rfl, hk, rfl, h6, h6n, k6⟩
    obtain ⟨wl, ws, wn, wt⟩ := wiped_lands (l.slabs.take k) d
    have pl6 := h6.pl
    rw [wl, ws, wn] at pl6
    have go6 := h6.go
    have gb6 := h6.gb
    have hwk := wrap_nat0 (k := k) (by omega)
    obtain ⟨m1, m2, m3⟩ := h.nes
    have hgon := h.lt _ h.Sp.2.2
    have hgbn := h.lt _ h.Sp.2.1
    by_cases hkl : k < l.slabs.length
    · have hkl' : (k : Int) < (l.slabs.length : Int) := by omega
      rcases hlv with ⟨q1, q2⟩ | ⟨g, q1, q2, q3, q4⟩
      · rw [q2] at hkl; simp at hkl
      subst q1
      have hg6 : H6 g = some (.row false 3 (l.slabs.map natI)) := by
        rcases h6.ln i l _ (by rw [wl]; exact hl) hv with ⟨e, _⟩ | ⟨g', e1, e2, _⟩
        · cases e
        · injection e1 with e1
          rw [e1]; exact e2
      obtain ⟨s, hs⟩ : ∃ s, l.slabs[k]? = some s := ⟨_, List.getElem?_eq_getElem hkl⟩
      have hsk := o2 s (List.mem_of_getElem? hs)
      have hsk' : (s : Int) < (d.slabs.length : Int) := by omega
      have hsi : (l.slabs.map natI)[k]? = some [.lit (.int .i64 (s : Int))] := by rw [List.getElem?_map, hs]; rfl
      obtain ⟨y0, hy0⟩ : ∃ y0, O6[s]? = some y0 := ⟨_, List.getElem?_eq_getElem (by rw [h6.ol, wt, h.ok.tl]; exact hsk)⟩
      obtain ⟨b0, hb0⟩ : ∃ b0, (d.wiped (l.slabs.take k)).slabs[s]? = some b0 := ⟨_, List.getElem?_eq_getElem (by rw [wn]; exact hsk)⟩
      have hoy : (O6.map intI)[s]? = some [.lit (.int .i64 y0)] := by rw [List.getElem?_map, hy0]; rfl
      have hby : ((d.wiped (l.slabs.take k)).slabs.map slabT)[s]? = some [.lit (.string ⟨b0.toArray⟩)] := by rw [List.getElem?_map, hb0]; rfl
      have hbl3 : Nat.ble l.slabs.length l.slabs.length = true := Nat.ble_self_eq_true _
      have htk3 : List.take l.slabs.length (l.slabs.map natI) = l.slabs.map natI := List.take_of_length_le (by rw [List.length_map]; exact Nat.le_refl _)
      obtain ⟨Z0, hZ0⟩ : ∃ Z0, List.replicate d.size (221 : UInt8) = Z0 := ⟨_, rfl⟩
      have hZl : Z0.length = d.size := by rw [← hZ0, List.length_replicate]
      rw [hZ0] at h6n
      have htk : List.take d.size (byL Z0) = byL Z0 := List.take_of_length_le (by rw [byL_len, hZl]; exact Nat.le_refl _)
      have hbz : Nat.ble d.size d.size = true := Nat.ble_self_eq_true _
      have e1 : (N.go == N.gb) = false := nb m2
      have e2 : (N.gb == N.go) = false := nb (Ne.symm m2)
      have e5 : (N.go == p) = false := nb m1
      have e6 : (N.gb == p) = false := nb m3
      simp only [push_cast, Nat.reduceBEq, Nat.reduceAdd, Nat.reduceEqDiff, reduceCtorEq, Nat.reduceLeDiff, Nat.reduceSub, Nat.reduceMul, Nat.reduceLT, Int.reduceEq, Int.reduceLT, Int.reduceLE, Int.reduceBEq, Int.reduceBNe, Int.reduceToNat, Int.reduceNeg, Int.reduceSub, Int.reduceAdd, pl6, go6, gb6, r0, r1, r2, r3, hi', hkl, hkl', hg6, hsi, hbl3, htk3, h6n, htk, hbz, hZl, byL_len, bytesOf_byL, strOf_byL, hsk', hoy, hby, e1, e2, e5, e6, hwk]
      have eO : (O6.map intI).set s [.lit (.int .i64 (-1))] = (O6.set s (-1)).map intI := by rw [List.map_set]; rfl
      have eB : ((d.wiped (l.slabs.take k)).slabs.map slabT).set s [.lit (.string ⟨Z0.toArray⟩)] = ((d.wiped (l.slabs.take k)).slabs.set s Z0).map slabT := by rw [List.map_set]; rfl
      rw [eO, eB]
      have hT := h6.took (n' := n) (H' := upd (upd H6 N.gb (some (.row true 9 (((d.wiped (l.slabs.take k)).slabs.set s Z0).map slabT)))) N.go (some (.row true 3 ((O6.set s (-1)).map intI)))) (s := s) (by rw [wn]; exact hsk) (c := Z0) (b := false) (z := -1) ⟨fun _ => rfl, fun _ => by decide⟩ (by rw [ws]; exact hZl) (Nat.le_refl _) (upd_same _ _ _) (by rw [upd_other m2, upd_same]) (fun j _ q1 q2 => by rw [upd_other (Ne.symm q1), upd_other (Ne.symm q2)])
      refine ⟨_, by omega, k + 1, _, O6.set s (-1), rfl, hkl, rfl, ?_, ?_, fun j hj hs => ?_⟩
      · rw [List.take_add_one, hs]
        show RPH _ n S p N (d.wiped (l.slabs.take k ++ [s])) _
        rw [wiped_snoc]
        unfold PoolD.wipe1
        rw [ws, hZ0]
        rw [ws] at hT
        exact hT
      · rw [upd_other (by omega), upd_other (by omega), hZ0]; exact h6n
      · rw [upd_other (fun q => hs (by rw [← q]; exact h.Sp.2.2)), upd_other (fun q => hs (by rw [← q]; exact h.Sp.2.1))]
        exact k6 j hj hs
    · have hkl' : ¬ (k : Int) < (l.slabs.length : Int) := by omega
      have hke : k = l.slabs.length := by omega
      subst hke
      rw [List.take_length] at h6 wl ws wn
      have hlen : 3 + i * 4 + 1 ≤ (landsC d.lands N.gl).length := by rw [landsC_len (h.ok.ll.trans h.gl.symm), h.ok.ll]; omega
      have hst := stores (l' := ⟨false, l.gen, [], 0⟩) (v' := nilV) (AV.lit (.int .i64 (d.size : Int))) (.rw N.gb 1 0 d.slabs.length) (.rw N.go 1 0 d.slabs.length) hl hv (a := .lit (.bool false)) (g := .lit (.int .i64 (l.gen : Int))) (f := .lit (.int .i64 0)) rfl
      unfold nilV at hst
      have hE := h6.empty (n' := n + 1) (H' := upd H6 p (some (.cells (.lit (.int .i64 (d.size : Int)) :: .rw N.gb 1 0 d.slabs.length :: .rw N.go 1 0 d.slabs.length :: landsC (d.lands.set i ⟨false, l.gen, [], 0⟩) (N.gl.set i nilV))))) (i := i) (l := l) (l' := ⟨false, l.gen, [], 0⟩) (by rw [wl]; exact hl) rfl rfl (by omega) (by rw [upd_same, wl, ws, wn]) (fun j _ hj => upd_other (Ne.symm hj))
      rw [ws, wl] at hE
      have fin : RPP H n S p (d.freed i l) (.lit (.int .i64 0)) (.lit (.int .i64 0)) (upd H6 p (some (.cells (.lit (.int .i64 (d.size : Int)) :: .rw N.gb 1 0 d.slabs.length :: .rw N.go 1 0 d.slabs.length :: landsC (d.lands.set i ⟨false, l.gen, [], 0⟩) (N.gl.set i nilV))))) (n + 1) :=
        ⟨rfl, S, ⟨_, _, hE⟩, by omega, fun j hj hs => ⟨(upd_other (fun q => hs (by rw [← q]; exact h.Sp.1))).trans (k6 j hj hs), hs⟩⟩
      rcases hlv with ⟨q1, q2⟩ | ⟨g, q1, q2, q3, q4⟩
      · subst q1
        have hl0 : ((l.slabs.length : Nat) : Int) = 0 := by rw [q2]; rfl
        unfold nilV at r0 r1 r2
        rw [hl0]
        simp only [push_cast, Nat.reduceBEq, Nat.reduceAdd, Nat.reduceEqDiff, reduceCtorEq, Nat.reduceLeDiff, Nat.reduceSub, Nat.reduceMul, Nat.reduceLT, Int.reduceEq, Int.reduceLT, Int.reduceLE, Int.reduceBEq, Int.reduceBNe, Int.reduceToNat, Int.reduceNeg, Int.reduceSub, Int.reduceAdd, pl6, r0, r1, r2, r3, hi', hlen, hst, show ¬ (0 : Int) < 0 by decide]
        exact fin
      · subst q1
        simp only [push_cast, Nat.reduceBEq, Nat.reduceAdd, Nat.reduceEqDiff, reduceCtorEq, Nat.reduceLeDiff, Nat.reduceSub, Nat.reduceMul, Nat.reduceLT, Int.reduceEq, Int.reduceLT, Int.reduceLE, Int.reduceBEq, Int.reduceBNe, Int.reduceToNat, Int.reduceNeg, Int.reduceSub, Int.reduceAdd, pl6, r0, r1, r2, r3, hi', hkl, hkl', hlen, hst]
        exact fin
theorem bzR_cells : Hv.bz102.cells.toList.map AV.lit = AV.lit (.int .i64 0) :: AV.lit (.slice none 0 0) :: AV.lit (.slice none 0 0) :: landsZ := by kernel_rfl
theorem rnew_c {size K : Nat} (hs : 64 ≤ size ∧ size ≤ 65536) (h8 : size % 8 = 0) (hK : 1 ≤ K ∧ K ≤ 4096) (hm : size * K ≤ 4194304) :
    HCalls Try.prog 17 [.lit (.int .i64 (size : Int)), .lit (.int .i64 (K : Int))] H n fun r H' n' => ∃ p S, r = .ptr p 0 ∧ RP H' n' S p (poolZ size K) ∧ n ≤ n' ∧ (∀ j, S j → n ≤ j) ∧ ∀ j, j < n → H' j = H j := by
  refine hcallsC_of (rs := [.tmp 4]) ⟨[0, 1, 4, 5, 6, 31, 37], [49,58], [], [(7, [(0, [], []), (1, [], []), (2, [], []), (3, [], []), (4, [], []), (5, [6], []), (6, [4], [5]), (7, [], []), (8, [], []), (9, [], [4, 8, 3, 7, 2, 6, 1, 5]), (10, [], []), (11, [], []), (12, [], [11, 9, 0, 1, 2, 3, 4, 5, 6, 7, 8, 10])])], []⟩ TOk mixed Try.func17 rfl rfl (by kernel_rfl) (by kernel_rfl) rfl ?_
  have g1 : ¬ (size : Int) < 64 := by omega
  have g2 : ¬ (size : Int) > 65536 := by omega
  have g2' : ¬ (65536 : Int) < (size : Int) := by omega
  have hmod : (size : Int).tmod 8 = 0 := by rw [show (8 : Int) = ((8 : Nat) : Int) from rfl, ← Int.ofNat_tmod, h8]; rfl
  have g3 : ¬ (K : Int) < 1 := by omega
  have g4 : ¬ (K : Int) > 4096 := by omega
  have g4' : ¬ (4096 : Int) < (K : Int) := by omega
  have wm : IntKind.i64.wrap ((size : Int) * (K : Int)) = ((size * K : Nat) : Int) := by rw [← Int.natCast_mul]; exact IntWalk.i64_in _ (by omega)
  have g5 : ¬ ((size * K : Nat) : Int) > 4194304 := by omega
  obtain ⟨X, hX⟩ : ∃ X, size * K = X := ⟨_, rfl⟩
  rw [hX] at wm g5
  have ha := landsZ_all
  have hl := landsZ_len
  have hc := bzR_cells
  simp only [Value.cells] at hc
  simp only [push_cast, Nat.reduceBEq, Nat.reduceAdd, Nat.reduceEqDiff, reduceCtorEq, Nat.reduceLeDiff, Nat.reduceSub, Nat.reduceMul, Nat.reduceLT, Int.reduceEq, Int.reduceLT, Int.reduceLE, Int.reduceBEq, Int.reduceBNe, Int.reduceToNat, Int.reduceNeg, Int.reduceSub, Int.reduceAdd, g1, g2, g2', g3, g4, g4', g5, hmod, wm, hc, ha, hl]
  obtain ⟨z0, hz0⟩ : ∃ z0, List.replicate size (0 : UInt8) = z0 := ⟨_, rfl⟩
  have hzl : z0.length = size := by rw [← hz0, List.length_replicate]
  have hzA : List.replicate size [AV.lit (.int .u8 0)] = byL z0 := by rw [← hz0]; unfold byL; rw [List.map_replicate]; rfl
  refine loopK (fun q s => ∃ (k n1 : Nat) (H1 : Hp) (V W : AV), s = ⟨[(0, .lit (.int .i64 (size : Int))), (1, .lit (.int .i64 (K : Int))), (5, .ptr n 0), (6, .lit (.int .i64 (k : Int)))], H1, n1⟩ ∧ k ≤ K ∧ q = K - k ∧ n + 1 ≤ n1 ∧ H1 n = some (.cells (.lit (.int .i64 (size : Int)) :: V :: W :: landsZ)) ∧
      ((V = nilV ∧ W = nilV ∧ k = 0) ∨ ∃ gb go, V = .rw gb 1 0 k ∧ W = .rw go 1 0 k ∧ n < gb ∧ gb < n1 ∧ n < go ∧ go < n1 ∧ H1 gb = some (.row true 9 ((List.replicate k z0).map slabT)) ∧ H1 go = some (.row true 3 ((List.replicate k (-1 : Int)).map intI))) ∧ ∀ j, j < n → H1 j = H j) _ [0, 1, 5, 6]
    ⟨0, n + 1, _, nilV, nilV, rfl, Nat.zero_le _, rfl, Nat.le_refl _, upd_same _ _ _, .inl ⟨rfl, rfl, rfl⟩, fun j hj => upd_other (by omega)⟩ ?_
  rintro q _ ⟨k, n1, H1, V, W, rfl, hk, rfl, hn1, hp, hVW, hfr⟩
  by_cases hkK : k < K
  · have hkK' : (k : Int) < (K : Int) := by omega
    have hwk := wrap_nat0 (k := k) (by omega)
    have q3 : (size : Int) ≤ 140737488355328 := by omega
    have q4 : 1 * (size : Int) ≤ 140737488355328 := by omega
    have c1 : (n1 == n) = false := nb (by omega)
    have c2 : (n1 + 1 == n) = false := nb (by omega)
    have c3 : (n1 + 1 + 1 == n) = false := nb (by omega)
    have c4 : (n1 + 1 + 1 + 1 == n) = false := nb (by omega)
    have c5 : (n1 + 1 + 1 + 1 + 1 == n) = false := nb (by omega)
    have htk : List.take size (byL z0) = byL z0 := List.take_of_length_le (by rw [byL_len, hzl]; exact Nat.le_refl _)
    have hbz : Nat.ble size size = true := Nat.ble_self_eq_true _
    rcases hVW with ⟨hV, hW, hk0⟩ | ⟨gb, go, hV, hW, hg1, hg2, hg3, hg4, hgb, hgo⟩
    · subst hV hW hk0
      unfold nilV at hp
      have hK0 : (0 : Int) < (K : Int) := by omega
      have w1 : IntKind.i64.wrap 1 = 1 := by rfl
      simp only [push_cast, Nat.reduceBEq, Nat.reduceAdd, Nat.reduceEqDiff, reduceCtorEq, Nat.reduceLeDiff, Nat.reduceSub, Nat.reduceMul, Nat.reduceLT, Int.reduceEq, Int.reduceLT, Int.reduceLE, Int.reduceBEq, Int.reduceBNe, Int.reduceToNat, Int.reduceNeg, Int.reduceSub, Int.reduceAdd, hK0, hp, w1, q3, q4, hzA, htk, hbz, hzl, byL_len, bytesOf_byL, strOf_byL, c1, c2, c3, c4, c5, hl]
      refine ⟨_, by omega, 1, _, _, .rw (n1 + 1) 1 0 1, .rw (n1 + 1 + 1 + 1) 1 0 1, rfl, by omega, rfl, by omega, upd_same _ _ _, .inr ⟨n1 + 1, n1 + 1 + 1 + 1, rfl, rfl, by omega, by omega, by omega, by omega, ?_, ?_⟩, fun j hj => ?_⟩
      · rw [upd_other (by omega), upd_other (by omega), upd_other (by omega), upd_other (by omega), upd_same]; rfl
      · rw [upd_other (by omega), upd_same]; rfl
      · rw [upd_other (by omega), upd_other (by omega), upd_other (by omega), upd_other (by omega), upd_other (by omega), upd_other (by omega)]; exact hfr j hj
    · subst hV hW
      have f1 : (gb == n) = false := nb (by omega)
      have f2 : (go == n) = false := nb (by omega)
      have hgg : gb ≠ go := heap_ne hgb hgo (by intro e; injection e with _ e; exact absurd e (by decide))
      have f3 : (gb == go) = false := nb hgg
      have f4 : (go == gb) = false := nb (Ne.symm hgg)
      have f5 : (n1 == gb) = false := nb (by omega)
      have f6 : (n1 == go) = false := nb (by omega)
      have f7 : (n1 + 1 == gb) = false := nb (by omega)
      have f8 : (n1 + 1 == go) = false := nb (by omega)
      have f9 : (n1 + 1 + 1 == gb) = false := nb (by omega)
      have f10 : (n1 + 1 + 1 == go) = false := nb (by omega)
      have f11 : (n1 + 1 + 1 + 1 == go) = false := nb (by omega)
      have f12 : (gb == n1) = false := nb (by omega)
      have f13 : (go == n1) = false := nb (by omega)
      have f14 : (gb == n1 + 1) = false := nb (by omega)
      have f15 : (go == n1 + 1 + 1 + 1) = false := nb (by omega)
      have f16 : (n == go) = false := nb (by omega)
      have f17 : (n == gb) = false := nb (by omega)
      have q5 : (k + 1) * 16 ≤ 140737488355328 := by omega
      have q6 : (k + 1) * 8 ≤ 140737488355328 := by omega
      simp only [push_cast, Nat.reduceBEq, Nat.reduceAdd, Nat.reduceEqDiff, reduceCtorEq, Nat.reduceLeDiff, Nat.reduceSub, Nat.reduceMul, Nat.reduceLT, Int.reduceEq, Int.reduceLT, Int.reduceLE, Int.reduceBEq, Int.reduceBNe, Int.reduceToNat, Int.reduceNeg, Int.reduceSub, Int.reduceAdd, hkK, hkK', hp, hwk, q3, q4, q5, q6, hzA, htk, hbz, hzl, byL_len, bytesOf_byL, strOf_byL, hgb, hgo, List.length_replicate, c1, c2, c3, c4, c5, f1, f2, f3, f4, f5, f6, f7, f8, f9, f10, f11, f12, f13, f14, f15, f16, f17, hl]
      refine ⟨_, by omega, k + 1, _, _, .rw (n1 + 1) 1 0 (k + 1), .rw (n1 + 1 + 1 + 1) 1 0 (k + 1), rfl, by omega, rfl, by omega, upd_same _ _ _, .inr ⟨n1 + 1, n1 + 1 + 1 + 1, rfl, rfl, by omega, by omega, by omega, by omega, ?_, ?_⟩, fun j hj => ?_⟩
      · rw [upd_other (by omega), upd_other (by omega), upd_other (by omega), upd_other (by omega), upd_other (by omega), upd_same, List.replicate_succ', List.map_append]; rfl
      · rw [upd_other (by omega), upd_same, List.replicate_succ', List.map_append]; rfl
      · rw [upd_other (by omega), upd_other (by omega), upd_other (by omega), upd_other (by omega), upd_other (by omega), upd_other (by omega), upd_other (by omega), upd_other (by omega)]; exact hfr j hj
  · have hke : k = K := by omega
    subst hke
    simp only [push_cast, Nat.reduceBEq, Nat.reduceAdd, Nat.reduceEqDiff, reduceCtorEq, Nat.reduceLeDiff, Nat.reduceSub, Nat.reduceMul, Nat.reduceLT, Int.reduceEq, Int.reduceLT, Int.reduceLE, Int.reduceBEq, Int.reduceBNe, Int.reduceToNat, Int.reduceNeg, Int.reduceSub, Int.reduceAdd, hkK, show ¬ (k : Int) < (k : Int) by omega]
    rcases hVW with ⟨hV, hW, hk0⟩ | ⟨gb, go, hV, hW, hg1, hg2, hg3, hg4, hgb, hgo⟩
    · omega
    subst hV hW
    refine ⟨n, fun j => n ≤ j ∧ j < n1, rfl, ⟨⟨gb, go, List.replicate 256 nilV⟩, List.replicate k (-1), ⟨?_, ?_, hgo, by show (List.replicate k _).length = (List.replicate k _).length; simp, fun s b z h1 h2 => ?_, by simp, fun i l v h1 h2 => ?_, fun i j g' a b h1 h2 => ?_, ⟨⟨Nat.le_refl n, (by omega : n < n1)⟩, ⟨(by omega : n ≤ gb), hg2⟩, ⟨(by omega : n ≤ go), hg4⟩⟩, fun j hj => hj.2, poolZ_ok hs hK.2⟩⟩, by omega, fun j hj => hj.1, hfr⟩
    · rw [hp]
      show some (AO.cells (_ :: AV.rw gb 1 0 k :: AV.rw go 1 0 k :: landsZ)) = some (AO.cells (_ :: AV.rw gb 1 0 (List.replicate k _).length :: AV.rw go 1 0 (List.replicate k _).length :: _))
      rw [List.length_replicate]; rfl
    · rw [hgb, ← hz0]; rfl
    · have h1 := List.eq_of_mem_replicate (List.mem_of_getElem? h1)
      have h2 := List.eq_of_mem_replicate (List.mem_of_getElem? h2)
      subst h1 h2
      exact ⟨fun _ => rfl, fun _ => by decide⟩
    · have hl0 := List.eq_of_mem_replicate (List.mem_of_getElem? h1)
      have hv0 := List.eq_of_mem_replicate (List.mem_of_getElem? h2)
      subst hl0 hv0
      exact .inl ⟨rfl, rfl⟩
    · have hv0 := List.eq_of_mem_replicate (List.mem_of_getElem? h1)
      cases hv0
end
end Go.Proofs.Ytndojmpgadbefaa
