/- The reference's pools: a piece's place, its bytes, new bytes. -/
import Derived.Test.YtndojmpgadbefaaEpRP
set_option linter.unusedVariables false
set_option linter.unusedSimpArgs false
namespace Go.Proofs.Ytndojmpgadbefaa
open Go Go.RowKit Hv
set_option maxRecDepth 20000
set_option maxHeartbeats 4000000
section
variable {H H' : Hp} {n n' p : Nat} {S : Nat → Prop} {d : PoolD} {N : RPN} {O : List Int}
theorem place_c (h : RPH H n S p N d O) {i o c s : Nat} {l : LandD} (hk : PieceOk d i l o c) (hs : l.slabs[o / d.size]? = some s) :
    HCalls Try.prog 61 [.ptr p 0, handA i l.gen o c] H n fun r H' n' => r = .tup [.lit (.int .i64 (s : Int)), .lit (.int .i64 ((o % d.size : Nat) : Int)), .lit (.int .i64 0)] ∧ n ≤ n' ∧ ∀ j, j < n → H' j = H j := by
  refine hcallsC_of (rs := [.tmp 4, .tmp 5, .tmp 6]) ⟨[0, 1, 3, 4, 5, 6, 7, 25, 78], [], [], [(1, [(0, [], []), (1, [], []), (2, [], []), (3, [], [0, 2, 1]), (4, [], []), (5, [], []), (6, [], []), (7, [], []), (8, [], []), (9, [], []), (10, [], []), (11, [], []), (12, [], []), (13, [], []), (14, [], []), (15, [], []), (16, [], []), (17, [], [])]), (3, [(0, [], []), (1, [], []), (2, [], []), (3, [], []), (4, [], []), (5, [], []), (6, [], []), (7, [2, 5, 6], []), (8, [], [7, 6, 0, 1, 2, 3, 4, 5])]), (4, [(0, [], []), (1, [], []), (2, [], []), (3, [], []), (4, [], []), (5, [], []), (6, [], []), (7, [], []), (8, [], []), (9, [], []), (10, [], []), (11, [], []), (12, [], []), (13, [], []), (14, [], []), (15, [], []), (16, [], []), (17, [], []), (18, [], []), (19, [], []), (20, [], []), (21, [], []), (22, [], []), (23, [], []), (24, [], []), (25, [], []), (26, [], []), (27, [], []), (28, [], []), (29, [], []), (30, [], []), (31, [], []), (32, [], []), (33, [], []), (34, [], []), (35, [], []), (36, [], []), (37, [], []), (38, [], []), (39, [], []), (40, [], []), (41, [], []), (42, [], []), (43, [], []), (44, [], []), (45, [], [])]), (6, [(0, [], []), (1, [], []), (2, [], []), (3, [], []), (4, [], []), (5, [], []), (6, [], []), (7, [], []), (8, [], []), (9, [], []), (10, [], []), (11, [], []), (12, [], []), (13, [], []), (14, [], []), (15, [], []), (16, [], []), (17, [], []), (18, [12, 16], [10, 0, 1, 2, 3, 4, 5, 6, 7, 8, 9]), (19, [], [17, 18, 0, 1, 2, 3, 4, 5, 6, 7, 8, 9, 10, 11, 12, 13, 14, 15, 16]), (20, [], [19, 0, 1, 2, 3, 4, 5, 6, 7, 8, 9, 10, 11, 12, 13, 14, 15, 16, 17, 18])])], []⟩ TOk mixed Try.func61 rfl rfl (by kernel_rfl) (by kernel_rfl) rfl ?_
  have hpn : p < n := h.lt p h.Sp.1
  unfold handA
  have c1 : (n == p) = false := nb (by omega)
  simp only [push_cast, Nat.reduceBEq, Nat.reduceAdd, Nat.reduceEqDiff, reduceCtorEq, Nat.reduceLeDiff, Nat.reduceSub, Nat.reduceMul, Nat.reduceLT, Int.reduceEq, Int.reduceLT, Int.reduceLE, Int.reduceBEq, Int.reduceBNe, Int.reduceToNat, Int.reduceNeg, Int.reduceSub, Int.reduceAdd]
  have hN := h.frame (H' := (upd H n (some (.cells [.lit (.int .i64 (i : Int)), .lit (.int .i64 (l.gen : Int)), .lit (.int .i64 (o : Int)), .lit (.int .i64 (c : Int))])))) (n' := n + 1) (by omega) fun j hj => by have := h.lt j hj; rw [upd_other (by omega)]
  refine callHD (rthere_c hN hk.at') ?_
  rintro _ H1 n1 ⟨rfl, rfl, rfl⟩
  have pl := h.pl
  obtain ⟨v, hv, hlv, hi, hd⟩ := h.at hk.at'
  obtain ⟨r0, r1, r2, r3⟩ := drops (AV.lit (.int .i64 (d.size : Int))) (.rw N.gb 1 0 d.slabs.length) (.rw N.go 1 0 d.slabs.length) hd
  have ht := hk.there
  have hi' : (i : Int) < 256 := by omega
  have hto : (i : Int).toNat = i := Int.toNat_natCast _
  rw [Hv.contD_at]
  refine ⟨by simp only [push_cast, Nat.reduceBEq, Nat.reduceAdd, Nat.reduceEqDiff, reduceCtorEq, Nat.reduceLeDiff, Nat.reduceSub, Nat.reduceMul, Nat.reduceLT, Int.reduceEq, Int.reduceLT, Int.reduceLE, Int.reduceBEq, Int.reduceBNe, Int.reduceToNat, Int.reduceNeg, Int.reduceSub, Int.reduceAdd, pl, r1, hi', c1], ?_⟩
  have hsz := h.ok.sz
  obtain ⟨o1, o2, o3, o4, _⟩ := h.ok.ls l (List.mem_of_getElem? hk.at')
  have hf := hk.fits
  have hin := hk.inS
  have hpos := hk.pos
  have hX : l.slabs.length * d.size ≤ 4096 * 65536 := Nat.mul_le_mul o1 hsz.2
  obtain ⟨q, hqe⟩ : ∃ q, o / d.size = q := ⟨_, rfl⟩
  obtain ⟨m, hme⟩ : ∃ m, o % d.size = m := ⟨_, rfl⟩
  have hmd : (o : Int).tmod (d.size : Int) = (m : Int) := by rw [← hme]; exact (Int.ofNat_tmod _ _).symm
  have hmd2 : IntKind.i64.wrap (m : Int) = (m : Int) := IntWalk.i64_in _ (by omega)
  have hqd : IntKind.i64.wrap ((o : Int).tdiv (d.size : Int)) = (q : Int) := by
    rw [show (o : Int).tdiv (d.size : Int) = (q : Int) by rw [← hqe]; exact (Int.ofNat_tdiv _ _).symm]
    have : q ≤ o := by rw [← hqe]; exact Nat.div_le_self _ _
    exact IntWalk.i64_in _ (by omega)
  have hqq : (o + c - 1) / d.size = q := by
    have e := Nat.div_add_mod o d.size
    rw [hqe, hme] at e
    have : o + c - 1 = d.size * q + (m + c - 1) := by omega
    rw [this, Nat.mul_add_div (by omega), Nat.div_eq_of_lt (by omega), Nat.add_zero]
  have hqd2 : IntKind.i64.wrap (((o : Int) + (c : Int) - 1).tdiv (d.size : Int)) = (q : Int) := by
    rw [show (o : Int) + (c : Int) - 1 = ((o + c - 1 : Nat) : Int) by omega, show ((o + c - 1 : Nat) : Int).tdiv (d.size : Int) = (q : Int) by rw [← hqq]; exact (Int.ofNat_tdiv _ _).symm]
    have : q ≤ o := by rw [← hqe]; exact Nat.div_le_self _ _
    exact IntWalk.i64_in _ (by omega)
  have w1 : IntKind.i64.wrap ((l.fill : Int) - (o : Int)) = (l.fill : Int) - (o : Int) := IntWalk.i64_in _ (by omega)
  have w3 : IntKind.i64.wrap ((o : Int) + (c : Int)) = (o : Int) + (c : Int) := IntWalk.i64_in _ (by omega)
  have w4 : IntKind.i64.wrap ((o : Int) + (c : Int) - 1) = (o : Int) + (c : Int) - 1 := IntWalk.i64_in _ (by omega)
  have g1 : ¬ (c : Int) < 1 := by omega
  have g2 : ¬ (o : Int) < 0 := by omega
  have g3 : ¬ (o : Int) > (l.fill : Int) := by omega
  have g4 : ¬ (c : Int) > (l.fill : Int) - (o : Int) := by omega
  have gne : ¬ (d.size : Int) = 0 := by omega
  rw [hqe] at hs
  have hq : q < l.slabs.length := (List.getElem?_eq_some_iff.1 hs).1
  have hq' : (q : Int) < (l.slabs.length : Int) := by omega
  rcases hlv with ⟨q1, q2⟩ | ⟨g, q1, q2, q3, q4⟩
  · rw [q2] at hs; simp at hs
  · subst q1
    have hgn := h.lt g q3
    have c2 : (n == g) = false := nb (by omega)
    have c3 : (n + 1 == g) = false := nb (by omega)
    have c4 : (n + 1 == p) = false := nb (by omega)
    have c5 : (n + 1 == n) = false := nb (by omega)
    have c6 : (n == n + 1) = false := nb (by omega)
    have hbl3 : Nat.ble l.slabs.length l.slabs.length = true := Nat.ble_self_eq_true _
    have htk3 : List.take l.slabs.length (l.slabs.map natI) = l.slabs.map natI := List.take_of_length_le (by rw [List.length_map]; exact Nat.le_refl _)
    have hsi : (l.slabs.map natI)[q]? = some [.lit (.int .i64 (s : Int))] := by rw [List.getElem?_map, hs]; rfl
    simp only [push_cast, Nat.reduceBEq, Nat.reduceAdd, Nat.reduceEqDiff, reduceCtorEq, Nat.reduceLeDiff, Nat.reduceSub, Nat.reduceMul, Nat.reduceLT, Int.reduceEq, Int.reduceLT, Int.reduceLE, Int.reduceBEq, Int.reduceBNe, Int.reduceToNat, Int.reduceNeg, Int.reduceSub, Int.reduceAdd, pl, r0, r1, r2, r3, hi', c1, c2, c3, c4, c5, c6, ht, g1, g2, g3, g4, gne, w1, w3, w4, hmd, hmd2, hqd, hqd2, q2, hsi, hq', hbl3, htk3]
    refine ⟨by rw [← hme]; rfl, by omega, fun j hj => ?_⟩
    rw [nb (show n + 1 ≠ j by omega), nb (show n ≠ j by omega)]
    simp only [cond_false]
theorem ba_extract (l : List UInt8) (a b : Nat) : (⟨l.toArray⟩ : ByteArray).extract a b = ⟨((l.drop a).take (b - a)).toArray⟩ := by
  apply ByteArray.ext
  rw [ByteArray.data_extract]
  show l.toArray.extract a b = _
  rw [List.extract_toArray]
theorem ba_append (a b : List UInt8) : (⟨a.toArray⟩ : ByteArray) ++ ⟨b.toArray⟩ = ⟨(a ++ b).toArray⟩ := by
  apply ByteArray.ext
  rw [ByteArray.data_append]
  show a.toArray ++ b.toArray = _
  simp
theorem ba_size (a : List UInt8) : (⟨a.toArray⟩ : ByteArray).size = a.length := rfl
theorem rload_c (h : RPH H n S p N d O) {i o c s : Nat} {l : LandD} (hk : PieceOk d i l o c) (hs : l.slabs[o / d.size]? = some s) :
    HCalls Try.prog 49 [.ptr p 0, handA i l.gen o c] H n fun r H' n' => r = .tup [.lit (.string ⟨(d.bytesAt s (o % d.size) c).toArray⟩), .lit (.int .i64 0)] ∧ n ≤ n' ∧ ∀ j, j < n → H' j = H j := by
  refine hcallsC_of (rs := [.tmp 4, .tmp 5]) ⟨[0, 1, 3, 4, 5, 6, 7, 8, 17], [], [], [(4, [(0, [], []), (1, [], []), (2, [], []), (3, [], []), (4, [], []), (5, [], []), (6, [], []), (7, [], []), (8, [], []), (9, [], []), (10, [], []), (11, [], []), (12, [], []), (13, [], [12, 0, 1, 2, 3, 4, 5, 6, 7, 8, 9, 10, 11]), (14, [], [13, 0, 1, 2, 3, 4, 5, 6, 7, 8, 9, 10, 11, 12])])], []⟩ TOk mixed Try.func49 rfl rfl (by kernel_rfl) (by kernel_rfl) rfl ?_
  have hpn : p < n := h.lt p h.Sp.1
  obtain ⟨_, b, hs', hb, hbl, hq⟩ := hk.slab h.ok
  rw [hs] at hs'
  injection hs' with hs'
  subst hs'
  have hin := hk.inS
  have hsz := h.ok.sz
  have pc := fun H' hf => place_c (h.frame (H' := H') (n' := n + 1) (by omega) hf) hk hs
  unfold handA at pc ⊢
  simp only [push_cast, Nat.reduceBEq, Nat.reduceAdd, Nat.reduceEqDiff, reduceCtorEq, Nat.reduceLeDiff, Nat.reduceSub, Nat.reduceMul, Nat.reduceLT, Int.reduceEq, Int.reduceLT, Int.reduceLE, Int.reduceBEq, Int.reduceBNe, Int.reduceToNat, Int.reduceNeg, Int.reduceSub, Int.reduceAdd]
  refine callH (pc _ fun j hj => upd_other (by have := h.lt j hj; omega)) ?_
  rintro _ H1 n1 ⟨rfl, hn1, k1⟩
  have hn1 : n + 1 ≤ n1 := hn1
  have k1 : ∀ j, j < n + 1 → H1 j = upd H n (some (.cells [.lit (.int .i64 (i : Int)), .lit (.int .i64 (l.gen : Int)), .lit (.int .i64 (o : Int)), .lit (.int .i64 (c : Int))])) j := k1
  have hN := h.frame (H' := H1) (n' := n1) (by omega) fun j hj => by have := h.lt j hj; rw [k1 j (by omega), upd_other (by omega)]
  have h1n : H1 n = some (.cells [.lit (.int .i64 (i : Int)), .lit (.int .i64 (l.gen : Int)), .lit (.int .i64 (o : Int)), .lit (.int .i64 (c : Int))]) := (k1 n (by omega)).trans (upd_same _ _ _)
  have pl := hN.pl
  have gb := hN.gb
  have hsb : (d.slabs.map slabT)[s]? = some [.lit (.string ⟨b.toArray⟩)] := by rw [List.getElem?_map, hb]; rfl
  have hsl : (s : Int) < (d.slabs.length : Int) := by have := (List.getElem?_eq_some_iff.1 hb).1; omega
  have hbytes : d.bytesAt s (o % d.size) c = (b.drop (o % d.size)).take c := by
    unfold PoolD.bytesAt
    rw [List.getD_eq_getElem?_getD, hb]; rfl
  rw [hbytes]
  obtain ⟨m, hme⟩ : ∃ m, o % d.size = m := ⟨_, rfl⟩
  have hzm : ((o % d.size : Nat) : Int) = (m : Int) := by rw [hme]
  rw [hzm]
  rw [hme] at hin ⊢
  have w1 : IntKind.i64.wrap ((m : Int) + (c : Int)) = (m : Int) + (c : Int) := IntWalk.i64_in _ (by omega)
  have hcut : ((0 : Int) ≤ (m : Int) ∧ (m : Int) ≤ (m : Int) + (c : Int) ∧ (m : Int) + (c : Int) ≤ (b.length : Int)) = True := eq_true (by omega)
  have hcut2 : ((m : Int) ≤ (m : Int) + (c : Int) ∧ (m : Int) + (c : Int) ≤ (b.length : Int)) = True := eq_true (by omega)
  have hto : ((m : Int) + (c : Int)).toNat = m + c := by omega
  simp only [push_cast, Nat.reduceBEq, Nat.reduceAdd, Nat.reduceEqDiff, reduceCtorEq, Nat.reduceLeDiff, Nat.reduceSub, Nat.reduceMul, Nat.reduceLT, Int.reduceEq, Int.reduceLT, Int.reduceLE, Int.reduceBEq, Int.reduceBNe, Int.reduceToNat, Int.reduceNeg, Int.reduceSub, Int.reduceAdd, pl, gb, hsb, hsl, h1n, w1, ba_size, ba_extract, hcut, hcut2, hto]
  rw [Nat.add_sub_cancel_left]
  exact ⟨rfl, by omega, fun j hj => (k1 j (by omega)).trans (upd_other (by omega))⟩
theorem rstore_c (h : RPH H n S p N d O) {i o s : Nat} {l : LandD} {u : ByteArray} {b : List UInt8} (hu : u = ⟨b.toArray⟩) (hk : PieceOk d i l o b.length) (hs : l.slabs[o / d.size]? = some s) :
    HCalls Try.prog 47 [.ptr p 0, handA i l.gen o b.length, .lit (.int .i64 0), .lit (.string u)] H n (RPP H n S p (d.stored s (o % d.size) b) (.lit (.int .i64 0))) := by
  refine hcallsC_of (rs := [.tmp 8]) ⟨[0, 1, 2, 3, 5, 8, 9, 10, 11, 20, 38], [], [], [(6, [(0, [], []), (1, [], []), (2, [], []), (3, [], []), (4, [], []), (5, [], []), (6, [], []), (7, [], []), (8, [], []), (9, [], []), (10, [], []), (11, [], []), (12, [], []), (13, [], []), (14, [], []), (15, [], []), (16, [], []), (17, [], []), (18, [], []), (19, [], []), (20, [], []), (21, [], []), (22, [], []), (23, [], []), (24, [], []), (25, [], []), (26, [], []), (27, [], []), (28, [], []), (29, [], []), (30, [], []), (31, [], []), (32, [], []), (33, [], []), (34, [], [33, 32, 0, 1, 2, 3, 4, 5, 6, 7, 8, 9, 10, 11, 12, 13, 14, 15, 16, 17, 18, 19, 20, 21, 22, 23, 24, 25, 26, 27, 28, 29, 30, 31])])], []⟩ TOk mixed Try.func47 rfl rfl (by kernel_rfl) (by kernel_rfl) rfl ?_
  have hpn : p < n := h.lt p h.Sp.1
  obtain ⟨_, a, hs', hb, hbl, hq⟩ := hk.slab h.ok
  rw [hs] at hs'
  injection hs' with hs'
  subst hs'
  have hin := hk.inS
  have hsz := h.ok.sz
  have pc := fun H' hf => place_c (h.frame (H' := H') (n' := n + 1) (by omega) hf) hk hs
  unfold handA at pc ⊢
  simp only [push_cast, Nat.reduceBEq, Nat.reduceAdd, Nat.reduceEqDiff, reduceCtorEq, Nat.reduceLeDiff, Nat.reduceSub, Nat.reduceMul, Nat.reduceLT, Int.reduceEq, Int.reduceLT, Int.reduceLE, Int.reduceBEq, Int.reduceBNe, Int.reduceToNat, Int.reduceNeg, Int.reduceSub, Int.reduceAdd]
  refine callH (pc _ fun j hj => upd_other (by have := h.lt j hj; omega)) ?_
  rintro _ H1 n1 ⟨rfl, hn1, k1⟩
  have hn1 : n + 1 ≤ n1 := hn1
  have k1 : ∀ j, j < n + 1 → H1 j = upd H n (some (.cells [.lit (.int .i64 (i : Int)), .lit (.int .i64 (l.gen : Int)), .lit (.int .i64 (o : Int)), .lit (.int .i64 (b.length : Int))])) j := k1
  have k2 : ∀ j, j < n → H1 j = H j := fun j hj => (k1 j (by omega)).trans (upd_other (by omega))
  have hN := h.frame (H' := H1) (n' := n1) (by omega) fun j hj => k2 j (h.lt j hj)
  have h1n : H1 n = some (.cells [.lit (.int .i64 (i : Int)), .lit (.int .i64 (l.gen : Int)), .lit (.int .i64 (o : Int)), .lit (.int .i64 (b.length : Int))]) := (k1 n (by omega)).trans (upd_same _ _ _)
  have pl := hN.pl
  have gb := hN.gb
  obtain ⟨A, hA⟩ : ∃ A, (⟨a.toArray⟩ : ByteArray) = A := ⟨_, rfl⟩
  have hAs : A.size = a.length := by rw [← hA]; rfl
  have hsb : (d.slabs.map slabT)[s]? = some [.lit (.string A)] := by rw [List.getElem?_map, hb, ← hA]; rfl
  have hslt := (List.getElem?_eq_some_iff.1 hb).1
  have hsl : (s : Int) < (d.slabs.length : Int) := by omega
  obtain ⟨m, hme⟩ : ∃ m, o % d.size = m := ⟨_, rfl⟩
  have hzm : ((o % d.size : Nat) : Int) = (m : Int) := by rw [hme]
  rw [hzm]
  rw [hme] at hin ⊢
  have hus : u.size = b.length := by rw [hu]; rfl
  have w0 : IntKind.i64.wrap ((m : Int) + 0) = (m : Int) := by rw [Int.add_zero]; exact IntWalk.i64_in _ (by omega)
  have w1 : IntKind.i64.wrap ((m : Int) + (b.length : Int)) = (m : Int) + (b.length : Int) := IntWalk.i64_in _ (by omega)
  have w2 : IntKind.i64.wrap ((b.length : Int) - 0) = (b.length : Int) := by rw [Int.sub_zero]; exact IntWalk.i64_in _ (by omega)
  have g0 : ¬ (0 : Int) > (b.length : Int) := by omega
  have g1 : ¬ (b.length : Int) > (b.length : Int) := by omega
  have g2 : ¬ (0 : Int) < 0 := by decide
  have hcut : ((0 : Int) ≤ 0 ∧ (0 : Int) ≤ (m : Int) ∧ (m : Int) ≤ (a.length : Int)) = True := eq_true (by omega)
  have hcut2 : ((0 : Int) ≤ (m : Int) ∧ (m : Int) ≤ (a.length : Int)) = True := eq_true (by omega)
  have hcut3 : ((m : Int) + (b.length : Int) ≤ (a.length : Int)) = True := eq_true (by omega)
  have hcut4 : ((0 : Int) ≤ (m : Int) + (b.length : Int)) = True := eq_true (by omega)
  have hcut5 : (m : Int) ≤ (a.length : Int) := by omega
  have hto : ((m : Int) + (b.length : Int)).toNat = m + b.length := by omega
  obtain ⟨X, hX⟩ : ∃ X, A.extract 0 m = X := ⟨_, rfl⟩
  have hXs : X.size = m := by rw [← hX, ByteArray.size_extract]; omega
  obtain ⟨Y, hY⟩ : ∃ Y, A.extract (m + b.length) a.length = Y := ⟨_, rfl⟩
  have hYs : Y.size ≤ a.length := by rw [← hY, ByteArray.size_extract]; omega
  obtain ⟨Z, hZ⟩ : ∃ Z, X ++ u = Z := ⟨_, rfl⟩
  have hZs : Z.size = m + b.length := by rw [← hZ, ByteArray.size_append, hXs, hus]
  have hadd1 : (9223372036854775807 < X.size + b.length) = False := eq_false (by omega)
  have hadd2 : (9223372036854775807 < Z.size + Y.size) = False := eq_false (by omega)
  simp only [push_cast, Nat.reduceBEq, Nat.reduceAdd, Nat.reduceEqDiff, reduceCtorEq, Nat.reduceLeDiff, Nat.reduceSub, Nat.reduceMul, Nat.reduceLT, Int.reduceEq, Int.reduceLT, Int.reduceLE, Int.reduceBEq, Int.reduceBNe, Int.reduceToNat, Int.reduceNeg, Int.reduceSub, Int.reduceAdd, pl, gb, hsb, hsl, h1n, w0, w1, w2, g0, g1, g2, hcut, hcut2, hcut3, hcut4, hcut5, hto, hus, hAs, hX, hY, hZ, hadd1, hadd2]
  have hZY : Z ++ Y = ⟨(a.take m ++ b ++ a.drop (m + b.length)).toArray⟩ := by
    have hYe : Y = ⟨(a.drop (m + b.length)).toArray⟩ := by rw [← hY, ← hA, ba_extract, List.take_of_length_le (by rw [List.length_drop]; exact Nat.le_refl _)]
    have hXe : X = ⟨(a.take m).toArray⟩ := by rw [← hX, ← hA, ba_extract]; rfl
    rw [← hZ, hYe, hXe, hu, ba_append, ba_append]
  have hset : (d.slabs.map slabT).set s [.lit (.string (Z ++ Y))] = (d.slabs.set s (a.take m ++ b ++ a.drop (m + b.length))).map slabT := by rw [List.map_set, hZY]; rfl
  obtain ⟨t, ht⟩ : ∃ t, d.taken[s]? = some t := ⟨_, List.getElem?_eq_getElem (by rw [h.ok.tl]; exact hslt)⟩
  obtain ⟨z, hz⟩ : ∃ z, O[s]? = some z := ⟨_, List.getElem?_eq_getElem (by rw [h.ol, h.ok.tl]; exact hslt)⟩
  obtain ⟨e1, e2, e3⟩ := h.nes
  have hT := hN.took (n' := n1) (H' := upd H1 N.gb (some (.row true 9 ((d.slabs.map slabT).set s [.lit (.string (Z ++ Y))])))) (s := s) hslt (c := a.take m ++ b ++ a.drop (m + b.length)) (b := t) (z := z) (h.ow s t z ht hz) (by simp only [List.length_append, List.length_take, List.length_drop]; omega) (Nat.le_refl _) (by rw [upd_other (Ne.symm e2), set_same hz]; exact hN.go) (by rw [upd_same, hset]) (fun j _ _ q => upd_other (Ne.symm q))
  rw [set_same ht, set_same hz] at hT
  have e : d.stored s m b = ⟨d.size, d.slabs.set s (a.take m ++ b ++ a.drop (m + b.length)), d.taken, d.lands⟩ := by
    unfold PoolD.stored
    rw [List.getD_eq_getElem?_getD, hb]; rfl
  rw [e]
  exact ⟨rfl, S, ⟨N, O, hT⟩, by omega, fun j hj hs => ⟨(upd_other (fun e => hs (by rw [← e]; exact h.Sp.2.1))).trans (k2 j hj), hs⟩⟩
end
end Go.Proofs.Ytndojmpgadbefaa
