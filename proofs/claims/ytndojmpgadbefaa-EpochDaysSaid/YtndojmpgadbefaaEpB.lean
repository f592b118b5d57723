/- Pools: a piece's bytes; by the walk over a heap. -/
import Derived.Test.YtndojmpgadbefaaEpA
import Derived.Test.YtndojmpgadbefaaByC
set_option linter.unusedVariables false
set_option linter.unusedSimpArgs false
namespace Go.Proofs.Ytndojmpgadbefaa
open Go Go.RowKit Hv
set_option maxRecDepth 20000
set_option maxHeartbeats 4000000
/-- A piece that a pool has. -/
structure PieceOk (d : PoolD) (i : Nat) (l : LandD) (o c : Nat) : Prop where
  at' : d.lands[i]? = some l
  there : l.there = true
  pos : 1 ≤ c
  fits : o + c ≤ l.fill
  inS : o % d.size + c ≤ d.size
theorem PieceOk.slab {d : PoolD} (hk : PoolOk d) {i o c : Nat} {l : LandD} (h : PieceOk d i l o c) : ∃ s b, l.slabs[o / d.size]? = some s ∧ d.slabs[s]? = some b ∧ b.length = d.size ∧ o / d.size < l.slabs.length := by
  obtain ⟨h1, h2, h3, _, _⟩ := hk.ls l (List.mem_of_getElem? h.at')
  have hlt : o / d.size < l.slabs.length := (Nat.div_lt_iff_lt_mul (by have := hk.sz; omega)).2 (by have := h.pos; have := h.fits; omega)
  obtain ⟨s, hs⟩ : ∃ s, l.slabs[o / d.size]? = some s := ⟨_, List.getElem?_eq_getElem hlt⟩
  obtain ⟨b, hb⟩ : ∃ b, d.slabs[s]? = some b := ⟨_, List.getElem?_eq_getElem (h2 s (List.mem_of_getElem? hs))⟩
  exact ⟨s, b, hs, hb, hk.bs b (List.mem_of_getElem? hb), hlt⟩
section
variable {H H' : Hp} {n n' p : Nat} {S : Nat → Prop} {d : PoolD} {N : PoolN}
theorem piece_h (h : PoolH H n S p N d) {i o c s sb : Nat} {l : LandD} (hk : PieceOk d i l o c) (hs : l.slabs[o / d.size]? = some s) (hsb : N.sb[s]? = some sb) :
    HCalls Try.prog 58 [.ptr p 0, handA i l.gen o c] H n fun r H' n' => r = .tup [.rw sb 1 (o % d.size) c, .lit (.int .i64 0)] ∧ n ≤ n' ∧ ∀ j, j < n → H' j = H j := by
  refine hcallsC_of (rs := [.tmp 4, .tmp 5]) ⟨[0, 1, 3, 4, 5, 6, 7, 9, 14, 26, 71], [], [], [(4, [(0, [], []), (1, [], []), (2, [], []), (3, [], []), (4, [], []), (5, [], []), (6, [], []), (7, [], []), (8, [], []), (9, [], []), (10, [], []), (11, [], [10, 2, 9, 1, 6, 8, 0, 5, 7, 4, 3])]), (6, [(0, [], []), (1, [], []), (2, [], []), (3, [], []), (4, [], []), (5, [], []), (6, [], []), (7, [], []), (8, [], []), (9, [], []), (10, [], []), (11, [], []), (12, [], []), (13, [], []), (14, [], []), (15, [], []), (16, [], []), (17, [], []), (18, [], []), (19, [], []), (20, [], []), (21, [], []), (22, [], []), (23, [], []), (24, [], []), (25, [], []), (26, [], []), (27, [], []), (28, [], []), (29, [], [28, 17, 27, 16, 8, 19, 26, 15, 7, 3, 18, 23, 25, 10, 14, 6, 2, 22, 24, 9, 13, 5, 1, 21, 12, 4, 0, 20, 11])]), (8, [(0, [], []), (1, [], []), (2, [], []), (3, [], []), (4, [], []), (5, [], []), (6, [], []), (7, [], [6, 0, 1, 2, 3, 4, 5])]), (9, [(0, [], []), (1, [], []), (2, [], []), (3, [], []), (4, [], []), (5, [], []), (6, [], []), (7, [], []), (8, [], [])]), (11, [(0, [], []), (1, [], []), (2, [], []), (3, [], []), (4, [], []), (5, [], []), (6, [], []), (7, [], []), (8, [], []), (9, [], []), (10, [], []), (11, [], []), (12, [], []), (13, [], []), (14, [], []), (15, [], []), (16, [], []), (17, [], []), (18, [], []), (19, [], []), (20, [], []), (21, [], []), (22, [], []), (23, [], []), (24, [], []), (25, [], [24, 0, 1, 2, 3, 4, 5, 6, 7, 8, 9, 10, 11, 12, 13, 14, 15, 16, 17, 18, 19, 20, 21, 22, 23]), (26, [], [25, 0, 1, 2, 3, 4, 5, 6, 7, 8, 9, 10, 11, 12, 13, 14, 15, 16, 17, 18, 19, 20, 21, 22, 23, 24])])], []⟩ TOk mixed Try.func58 rfl rfl (by kernel_rfl) (by kernel_rfl) rfl ?_
  have hpn : p < n := h.lt p h.Sp.1
  unfold handA
  have c0 : (n + 1 == n) = false := nb (by omega)
  have c1 : (n + 1 == p) = false := nb (by omega)
  simp only [push_cast, Nat.reduceBEq, Nat.reduceAdd, Nat.reduceEqDiff, reduceCtorEq, Nat.reduceLeDiff, Nat.reduceSub, Nat.reduceMul, Nat.reduceLT, Int.reduceEq, Int.reduceLT, Int.reduceLE, Int.reduceBEq, Int.reduceBNe, Int.reduceToNat, Int.reduceNeg, Int.reduceSub, Int.reduceAdd, c0]
  have hN := h.frame (H' := (upd (upd H n (some (.cells [.lit (.int .i64 (i : Int)), .lit (.int .i64 (l.gen : Int)), .lit (.int .i64 (o : Int)), .lit (.int .i64 (c : Int))]))) (n + 1) (some (.row false 5 [])))) (n' := n + 1 + 1) (by omega) fun j hj => by have := h.lt j hj; rw [upd_other (by omega), upd_other (by omega)]
  have h1n : (upd (upd H n (some (.cells [.lit (.int .i64 (i : Int)), .lit (.int .i64 (l.gen : Int)), .lit (.int .i64 (o : Int)), .lit (.int .i64 (c : Int))]))) (n + 1) (some (.row false 5 []))) n = some (.cells [.lit (.int .i64 (i : Int)), .lit (.int .i64 (l.gen : Int)), .lit (.int .i64 (o : Int)), .lit (.int .i64 (c : Int))]) := by rw [upd_other (by omega), upd_same]
  have k1 : ∀ j, j < n → (upd (upd H n (some (.cells [.lit (.int .i64 (i : Int)), .lit (.int .i64 (l.gen : Int)), .lit (.int .i64 (o : Int)), .lit (.int .i64 (c : Int))]))) (n + 1) (some (.row false 5 []))) j = H j := fun j hj => by rw [upd_other (by omega), upd_other (by omega)]
  generalize (upd (upd H n (some (.cells [.lit (.int .i64 (i : Int)), .lit (.int .i64 (l.gen : Int)), .lit (.int .i64 (o : Int)), .lit (.int .i64 (c : Int))]))) (n + 1) (some (.row false 5 []))) = H1 at hN h1n k1 ⊢
  refine callH (land_h hN hk.at' hk.there) ?_
  rintro _ H1 n1 ⟨rfl, rfl, rfl⟩
  have pl := hN.pl
  have hgs := hN.gs
  have c4 : (n == p) = false := nb (by omega)
  obtain ⟨v, hv, hlv, hi, hd⟩ := hN.at hk.at'
  obtain ⟨r0, r1, r2, r3⟩ := drops (AV.lit (.int .i64 (d.size : Int))) (.rw N.gs 1 0 d.slabs.length) (.rw N.gt 1 0 d.slabs.length) hd
  obtain ⟨_, b, hs', hb, hbl, hq⟩ := hk.slab h.ok
  rw [hs] at hs'
  injection hs' with hs'
  subst hs'
  have hsz := h.ok.sz
  obtain ⟨o1, o2, o3, o4, _⟩ := h.ok.ls l (List.mem_of_getElem? hk.at')
  have hf := hk.fits
  have hin := hk.inS
  have hpos := hk.pos
  have hX : l.slabs.length * d.size ≤ 4096 * 65536 := Nat.mul_le_mul o1 hsz.2
  obtain ⟨q, hqe⟩ : ∃ q, o / d.size = q := ⟨_, rfl⟩
  obtain ⟨m, hme⟩ : ∃ m, o % d.size = m := ⟨_, rfl⟩
  have hmd : (o : Int).tmod (d.size : Int) = (m : Int) := by rw [← hme]; exact (Int.ofNat_tmod _ _).symm
  have hqd : IntKind.i64.wrap ((o : Int).tdiv (d.size : Int)) = (q : Int) := by
    rw [show (o : Int).tdiv (d.size : Int) = (q : Int) by rw [← hqe]; exact (Int.ofNat_tdiv _ _).symm]
    have : q ≤ o := by rw [← hqe]; exact Nat.div_le_self _ _
    exact IntWalk.i64_in _ (by omega)
  rw [hqe] at hs hq
  rw [hme] at hin ⊢
  have g1 : ¬ (c : Int) < 1 := by omega
  have g2 : ¬ (o : Int) < 0 := by omega
  have g3 : ¬ (l.fill : Int) < (o : Int) := by omega
  have g3' : ¬ l.fill < o := by omega
  have w1 : IntKind.i64.wrap ((l.fill : Int) - (o : Int)) = (l.fill : Int) - (o : Int) := IntWalk.i64_in _ (by omega)
  have g4 : ¬ (l.fill : Int) - (o : Int) < (c : Int) := by omega
  have g4' : ¬ (c : Int) > (l.fill : Int) - (o : Int) := by omega
  have w2 : IntKind.i64.wrap ((m : Int) + (c : Int)) = (m : Int) + (c : Int) := IntWalk.i64_in _ (by omega)
  have g5 : ¬ (d.size : Int) < (m : Int) + (c : Int) := by omega
  have g5' : ¬ d.size < m + c := by omega
  have gne : (d.size : Int) ≠ 0 := by omega
  have hsl : s < N.sb.length := (List.getElem?_eq_some_iff.1 hsb).1
  have hbl2 : Nat.ble d.slabs.length N.sb.length = true := by rw [Nat.ble_eq, h.sl]; exact Nat.le_refl _
  have htk : List.take d.slabs.length (N.sb.map (slabI d.size)) = N.sb.map (slabI d.size) := List.take_of_length_le (by rw [List.length_map, h.sl]; exact Nat.le_refl _)
  have hcut : ((m : Int) ≤ (m : Int) + (c : Int) ∧ (m : Int) + (c : Int) ≤ (d.size : Int)) = True := eq_true (by omega)
  have hto : ((m : Int) + (c : Int) - (m : Int)).toNat = c := by omega
  rcases hlv with ⟨q1, q2⟩ | ⟨g, q1, q2, q3, q4⟩
  · rw [q2] at hs; simp at hs
  · subst q1
    simp only [push_cast, Nat.reduceBEq, Nat.reduceAdd, Nat.reduceEqDiff, reduceCtorEq, Nat.reduceLeDiff, Nat.reduceSub, Nat.reduceMul, Nat.reduceLT, Int.reduceEq, Int.reduceLT, Int.reduceLE, Int.reduceBEq, Int.reduceBNe, Int.reduceToNat, Int.reduceNeg, Int.reduceSub, Int.reduceAdd, pl, h1n, c4, r0, r1, r2, r3, g1, g2, g3, g3', g4, g4', g5, g5', w1, w2, hmd, hqd, gne, hgs, hsb, hs, q2, natI, slabI, hbl2, htk, hcut, hto]
    exact ⟨by omega, k1⟩
/-- The bytes of a piece. -/
def PoolD.bytesAt (d : PoolD) (s r c : Nat) : List UInt8 := ((d.slabs.getD s []).drop r).take c
theorem its_piece {H : Hp} {sb m c : Nat} {b : List UInt8} (hb : H sb = some (.row true 5 (b.map byteA))) (hc : 1 ≤ c) (hm : m + c ≤ b.length) : (AV.rw sb 1 m c).its? H = some (byL ((b.drop m).take c)) := by
  have e : piece (b.map byteA) m c = byL ((b.drop m).take c) := by
    unfold piece byL
    cases h0 : Nat.beq m 0 with
    | true =>
      have : m = 0 := Nat.eq_of_beq_eq_true h0
      subst this
      rw [cond_true, List.drop_zero, List.map_take]
    | false => rw [cond_false, List.map_take, List.map_drop]
  have hf : fits (b.map byteA) 1 m c = true := by
    unfold fits
    cases h0 : Nat.beq m 0 with
    | true =>
      have : m = 0 := Nat.eq_of_beq_eq_true h0
      rw [cond_true, Nat.ble_eq, List.length_map]; omega
    | false =>
      rw [cond_false, Bool.and_eq_true]
      refine ⟨?_, by rw [Nat.ble_eq, List.length_map]; exact hm⟩
      cases b with
      | nil => simp at hm; omega
      | cons x b => rfl
  show (match H sb with
    | some (.row _ _ items) => bif fits items 1 m c then some (piece items m c) else none
    | some (.frz _ items) => bif fits items 1 m c then some (piece items m c) else none
    | _ => none) = _
  rw [hb]
  simp only [hf, cond_true, e]
theorem load_c (h : PoolH H n S p N d) {i o c s : Nat} {l : LandD} (hk : PieceOk d i l o c) (hs : l.slabs[o / d.size]? = some s) :
    HCalls Try.prog 48 [.ptr p 0, handA i l.gen o c] H n fun r H' n' => ∃ g, r = .tup [.rw g 1 0 c, .lit (.int .i64 0)] ∧ n ≤ g ∧ g < n' ∧ H' g = some (.row true 5 ((d.bytesAt s (o % d.size) c).map byteA)) ∧ ∀ j, j < n → H' j = H j := by
  refine hcallsC_of (rs := [.tmp 4, .tmp 5]) ⟨[0, 1, 3, 4, 5, 6, 7], [], [], [], []⟩ TOk mixed Try.func48 rfl rfl (by kernel_rfl) (by kernel_rfl) rfl ?_
  obtain ⟨_, b, hs', hb, hbl, hq⟩ := hk.slab h.ok
  rw [hs] at hs'
  injection hs' with hs'
  subst hs'
  have hslt := (List.getElem?_eq_some_iff.1 hb).1
  obtain ⟨sb, hsb⟩ : ∃ sb, N.sb[s]? = some sb := ⟨_, List.getElem?_eq_getElem (by rw [h.sl]; exact hslt)⟩
  obtain ⟨hsr, hsS⟩ := h.sb s sb b hsb hb
  have hsbn := h.lt sb hsS
  have hsz := h.ok.sz
  have hin := hk.inS
  have hpos := hk.pos
  have hc0 : (n + 1 == n) = false := nb (by omega)
  unfold handA
  simp only [push_cast, Nat.reduceBEq, Nat.reduceAdd, Nat.reduceEqDiff, reduceCtorEq, Nat.reduceLeDiff, Nat.reduceSub, Nat.reduceMul, Nat.reduceLT, Int.reduceEq, Int.reduceLT, Int.reduceLE, Int.reduceBEq, Int.reduceBNe, Int.reduceToNat, Int.reduceNeg, Int.reduceSub, Int.reduceAdd, hc0]
  have hN := h.frame (H' := upd (upd H n (some (.cells [.lit (.int .i64 (i : Int)), .lit (.int .i64 (l.gen : Int)), .lit (.int .i64 (o : Int)), .lit (.int .i64 (c : Int))]))) (n + 1) (some (.row false 5 []))) (n' := n + 1 + 1) (by omega) fun j hj => by have := h.lt j hj; rw [upd_other (by omega), upd_other (by omega)]
  refine callH (piece_h hN hk hs hsb) ?_
  rintro _ H2 n2 ⟨rfl, hn2, k2⟩
  have hsr2 : H2 sb = some (.row true 5 (b.map byteA)) := by
    rw [k2 sb (by omega), upd_other (by omega), upd_other (by omega)]; exact hsr
  have hbytes : d.bytesAt s (o % d.size) c = (b.drop (o % d.size)).take c := by
    unfold PoolD.bytesAt
    rw [List.getD_eq_getElem?_getD, hb]; rfl
  have hblen : ((b.drop (o % d.size)).take c).length = c := by rw [List.length_take, List.length_drop, hbl]; omega
  simp only [push_cast, Nat.reduceBEq, Nat.reduceAdd, Nat.reduceEqDiff, reduceCtorEq, Nat.reduceLeDiff, Nat.reduceSub, Nat.reduceMul, Nat.reduceLT, Int.reduceEq, Int.reduceLT, Int.reduceLE, Int.reduceBEq, Int.reduceBNe, Int.reduceToNat, Int.reduceNeg, Int.reduceSub, Int.reduceAdd]
  refine callH (bytesClone_h (its_piece hsr2 hpos (by rw [hbl]; exact hin)) (by omega)) ?_
  rintro r H3 n3 (⟨rfl, hl0, rfl, rfl⟩ | ⟨rfl, rfl, rfl⟩)
  · rw [hl0] at hblen; simp at hblen; omega
  · simp only [push_cast, Nat.reduceBEq, Nat.reduceAdd, Nat.reduceEqDiff, reduceCtorEq, Nat.reduceLeDiff, Nat.reduceSub, Nat.reduceMul, Nat.reduceLT, Int.reduceEq, Int.reduceLT, Int.reduceLE, Int.reduceBEq, Int.reduceBNe, Int.reduceToNat, Int.reduceNeg, Int.reduceSub, Int.reduceAdd]
    refine ⟨n2, by rw [hblen], by omega, by omega, ?_, fun j hj => ?_⟩
    · rw [beq_self_eq_true, cond_true, hbytes]; rfl
    · rw [nb (show n2 ≠ j by omega), cond_false, k2 j (by omega), upd_other (by omega), upd_other (by omega)]
/-- Bytes are stored in a piece. -/
def PoolD.stored (d : PoolD) (s r : Nat) (b : List UInt8) : PoolD := ⟨d.size, d.slabs.set s (((d.slabs.getD s []).take r ++ b ++ (d.slabs.getD s []).drop (r + b.length))), d.taken, d.lands⟩
theorem store_c (h : PoolH H n S p N d) {i o s g : Nat} {l : LandD} {b : List UInt8} (hk : PieceOk d i l o b.length) (hs : l.slabs[o / d.size]? = some s) {m0 : Bool} {e0 : Nat} (hx : H g = some (.row m0 e0 (b.map byteA))) (hgn : g < n) (hgS : ¬ S g) (hbl : b.length ≤ 1000000) :
    HCalls Try.prog 45 [.ptr p 0, handA i l.gen o b.length, .lit (.int .i64 0), .rw g 1 0 b.length] H n (PoolP H n S p (d.stored s (o % d.size) b) (.lit (.int .i64 0))) := by
  refine hcallsC_of (rs := [.tmp 8]) ⟨[0, 1, 2, 3, 5, 8, 9, 10, 17, 21], [], [], [], []⟩ TOk mixed Try.func45 rfl rfl (by kernel_rfl) (by kernel_rfl) rfl ?_
  obtain ⟨_, bs, hs', hb, hbs, hq⟩ := hk.slab h.ok
  rw [hs] at hs'
  injection hs' with hs'
  subst hs'
  have hslt := (List.getElem?_eq_some_iff.1 hb).1
  obtain ⟨sb, hsb⟩ : ∃ sb, N.sb[s]? = some sb := ⟨_, List.getElem?_eq_getElem (by rw [h.sl]; exact hslt)⟩
  obtain ⟨hsr, hsS⟩ := h.sb s sb bs hsb hb
  have hsbn := h.lt sb hsS
  have hin := hk.inS
  have hpos := hk.pos
  unfold handA
  simp only [push_cast, Nat.reduceBEq, Nat.reduceAdd, Nat.reduceEqDiff, reduceCtorEq, Nat.reduceLeDiff, Nat.reduceSub, Nat.reduceMul, Nat.reduceLT, Int.reduceEq, Int.reduceLT, Int.reduceLE, Int.reduceBEq, Int.reduceBNe, Int.reduceToNat, Int.reduceNeg, Int.reduceSub, Int.reduceAdd]
  have hN := h.frame (H' := upd H n (some (.cells [.lit (.int .i64 (i : Int)), .lit (.int .i64 (l.gen : Int)), .lit (.int .i64 (o : Int)), .lit (.int .i64 (b.length : Int))]))) (n' := n + 1) (by omega) fun j hj => by have := h.lt j hj; rw [upd_other (by omega)]
  refine callH (piece_h hN hk hs hsb) ?_
  rintro _ H2 n2 ⟨rfl, hn2, k2⟩
  have k3 : ∀ j, j < n → H2 j = H j := fun j hj => by rw [k2 j (by omega), upd_other (by omega)]
  have hN2 := h.frame (H' := H2) (n' := n2) (by omega) fun j hj => k3 j (h.lt j hj)
  have hx2 := (k3 g hgn).trans hx
  have hsr2 := (k3 sb hsbn).trans hsr
  have g1 : ¬ (0 : Int) > (b.length : Int) := by omega
  have g1' : ¬ (b.length : Int) < 0 := by omega
  have w1 : IntKind.i64.wrap ((b.length : Int) - 0) = (b.length : Int) := by rw [Int.sub_zero]; exact IntWalk.i64_in _ (by omega)
  have g2 : ¬ (b.length : Int) > (b.length : Int) := by omega
  have g3 : ((0 : Int) ≤ (b.length : Int) ∧ (b.length : Int) ≤ (b.length : Int)) = True := eq_true (by omega)
  have g4 : ((b.length : Int) - 0).toNat = b.length := by omega
  have g5 : Nat.ble b.length (b.map byteA).length = true := by rw [Nat.ble_eq, List.length_map]; exact Nat.le_refl _
  have g6 : (∀ it ∈ b.map byteA, it.length = 1) = True := eq_true fun it hit => by obtain ⟨x, _, rfl⟩ := List.mem_map.1 hit; rfl
  have g7 : (∀ it ∈ bs.map byteA, it.length = 1) = True := eq_true fun it hit => by obtain ⟨x, _, rfl⟩ := List.mem_map.1 hit; rfl
  have g8 : o % d.size + b.length ≤ (bs.map byteA).length := by rw [List.length_map, hbs]; exact hin
  have g8' : o % d.size + b.length ≤ bs.length := by rw [hbs]; exact hin
  have g9 : List.take b.length (b.map byteA) = b.map byteA := List.take_of_length_le (by rw [List.length_map]; exact Nat.le_refl _)
  simp only [push_cast, Nat.reduceBEq, Nat.reduceAdd, Nat.reduceEqDiff, reduceCtorEq, Nat.reduceLeDiff, Nat.reduceSub, Nat.reduceMul, Nat.reduceLT, Int.reduceEq, Int.reduceLT, Int.reduceLE, Int.reduceBEq, Int.reduceBNe, Int.reduceToNat, Int.reduceNeg, Int.reduceSub, Int.reduceAdd, g1, g1', g2, g3, g4, g5, g6, g7, g8, g8', g9, w1, hx2, hsr2]
  have hsp : spliceL (bs.map byteA) (o % d.size) (b.map byteA) = (bs.take (o % d.size) ++ b ++ bs.drop (o % d.size + b.length)).map byteA := by
    unfold spliceL
    rw [List.map_append, List.map_append, List.map_take, List.map_drop, List.length_map]
  rw [hsp]
  obtain ⟨t, ht⟩ : ∃ t, d.taken[s]? = some t := ⟨_, List.getElem?_eq_getElem (by rw [h.ok.tl]; exact hslt)⟩
  obtain ⟨m1, m2, m3⟩ := hN2.nesB hsr2
  have hT := hN2.took (s := s) (sb := sb) (c := bs.take (o % d.size) ++ b ++ bs.drop (o % d.size + b.length)) (b := t) (H' := upd H2 sb (some (.row true 5 ((bs.take (o % d.size) ++ b ++ bs.drop (o % d.size + b.length)).map byteA)))) hslt hsb (by simp only [List.length_append, List.length_take, List.length_drop]; omega) (by rw [upd_other m3, set_same ht]; exact hN2.gt) (upd_same _ _ _) (fun j q1 q2 => upd_other (Ne.symm q2))
  rw [set_same ht] at hT
  have e : d.stored s (o % d.size) b = ⟨d.size, d.slabs.set s (bs.take (o % d.size) ++ b ++ bs.drop (o % d.size + b.length)), d.taken, d.lands⟩ := by
    unfold PoolD.stored
    rw [List.getD_eq_getElem?_getD, hb]; rfl
  rw [e]
  exact ⟨rfl, S, ⟨N, hT⟩, by omega, fun j hj hs => ⟨by rw [upd_other (fun e => hs (by rw [← e]; exact hsS))]; exact k3 j hj, hs⟩⟩
end
end Go.Proofs.Ytndojmpgadbefaa
